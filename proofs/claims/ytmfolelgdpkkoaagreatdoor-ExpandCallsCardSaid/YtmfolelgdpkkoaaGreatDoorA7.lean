/- Sheets: whether a sheet may be, by the program and by the document. -/
import Derived.Test.YtmfolelgdpkkoaaGreatDoorA6
set_option linter.unusedVariables false
set_option linter.unusedSimpArgs false
set_option maxRecDepth 10000
namespace Go.Ab
def tooLong (x : Sht) : Bool := decide (256 < x.stops.length) || decide (1024 < x.paths.length) || decide (256 < x.doors.length) || decide (256 < x.routes.length) || decide (1024 < x.trips.length) || decide (256 < x.hazards.length)
def rteOK (r : Rte) : Bool := decide (2 ≤ r.stops.length) && decide (r.stops.length ≤ 32) && ((r.rides.length : Int) == (r.stops.length : Int) - 1) && ((r.stays.length : Int) == (r.stops.length : Int) - 2)
def shtErr (x : Sht) : Int := if tooLong x then 3 else if (namesL x).any (fun s => !nameOK s) then 7 else if (numbersL x).any (fun n => !tickOK n) then 9 else if x.routes.any (fun r => !rteOK r) then 2 else 0
theorem any_of {α : Type} {p : α → Bool} {xs : List α} {i : Nat} (h : i < xs.length) (he : p xs[i] = true) : xs.any p = true := List.any_eq_true.2 ⟨_, List.getElem_mem h, he⟩
theorem any_not {α : Type} {p : α → Bool} {xs : List α} (hb : ∀ x ∈ xs, p x = false) : xs.any p = false := by
  rw [List.any_eq_false]
  intro x hx
  simp [hb x hx]
end Go.Ab
namespace Go.Proofs.YtmfolelgdpkkoaaGreatDoor
open Go Go.Ab

theorem m_ref05_names (G : GlP) (x : Sht) (hx : ShtFits x) : Meets Pg G F_ref05_names [.agg (cSht x)] [] (.lst 1 ((namesL x).map cS)) [] := by
  have hl := hx.names
  have b1 := hx.paths
  have b2 := hx.doors
  have b3 := hx.routes
  have b4 := hx.trips
  have b5 := hx.hazards
  have l1 : (x.stops ++ x.paths.flatMap nmPth).length ≤ (namesL x).length := by simp only [namesL, List.length_append]; omega
  have l2 : (x.stops ++ x.paths.flatMap nmPth ++ x.doors.flatMap nmDor).length ≤ (namesL x).length := by simp only [namesL, List.length_append]; omega
  have l3 : (x.stops ++ x.paths.flatMap nmPth ++ x.doors.flatMap nmDor ++ x.routes.flatMap nmRte).length ≤ (namesL x).length := by simp only [namesL, List.length_append]; omega
  have l4 : (x.stops ++ x.paths.flatMap nmPth ++ x.doors.flatMap nmDor ++ x.routes.flatMap nmRte ++ x.trips.flatMap nmTrp).length ≤ (namesL x).length := by simp only [namesL, List.length_append]; omega
  have l0 : (x.stops).length ≤ (namesL x).length := by simp only [namesL, List.length_append]; omega
  refine meets_pure (F := { fe_ref05_names with rows := [] }) hTh hMx func_ref05_names rfl call_ref05_names rfl rfl rfl ?_
  conv => whnf
  refine ⟨by simp only [List.length_map]; omega, ?_⟩
  conv => whnf
  refine LoopOK.weak _ _ ?_ ?_ ?_ (LoopOK.ind (fun i : Nat => x.paths.length - i) (fun i => [(1, .ref (F_ref05_names, 1) 0), (3, .own (F_ref05_names, 12) (grow (x.stops) nmPth x.paths i).length), (4, .int .i64 i)]) (fun i => [((F_ref05_names, 1), .cells T_api_Sheet (cSht x)), ((F_ref05_names, 12), .row T_string 1 ((grow (x.stops) nmPth x.paths i).map cS))]) (fun i => i ≤ x.paths.length) ?_ 0 (by omega))
  · exact ⟨rfl, own_len (by rw [grow_zero]; first | rfl | rw [List.length_map]), rfl, trivial⟩
  · exact ⟨rfl, row_to (grow_zero.symm) rfl, trivial⟩
  · exact chk_mk ⟨rfl, rfl, rfl, trivial⟩ ⟨rfl, cloX_row (l := (F_ref05_names, 12)) (e := T_string) (sz := 1) (Clo.map fS _), trivial⟩ rfl
  intro i1 hi IH
  refine LoopOK.round hTh hMx ?_
  conv => whnf
  refine cond_split (fun h => ?_) (fun hz1 => ?_)
  · have hlt := lt_of_dec h
    have hgl := grow_len (pre := (x.stops)) (f := nmPth) hlt
    have hgb : (grow (x.stops) nmPth x.paths (i1 + 1)).length ≤ 4294967296 := Nat.le_trans grow_le (by have := l1; omega)
    conv => whnf
    refine IndexTo.at (map_at cPth hlt) ?_
    conv => whnf
    refine IndexTo.at (map_at cPth hlt) ?_
    conv => whnf
    refine IndexTo.at (map_at cPth hlt) ?_
    conv => whnf
    refine ⟨by simp only [List.length_map, List.length_append, List.length_cons, List.length_nil], by simp only [nmPth, List.length_cons, List.length_nil, List.length_map, List.length_append] at hgl ⊢; omega, ?_⟩
    conv => whnf
    refine ⟨by kernel_rfl, ?_⟩
    conv => whnf
    refine WrapTo.i64 (by omega) ?_
    conv => whnf
    refine LoopOK.weak _ _ ?_ ?_ ?_ (IH (i1 + 1) (by omega) (by omega))
    · exact ⟨rfl, own_len (by simp only [nmPth, List.length_cons, List.length_nil, List.length_map, List.length_append] at hgl ⊢; omega), rfl, trivial⟩
    · exact ⟨rfl, congrArg (fun z => some (ABox.row T_string 1 z)) (grow_succ hlt), trivial⟩
    · exact chk_mk ⟨rfl, rfl, rfl, trivial⟩ ⟨rfl, cloX_row (l := (F_ref05_names, 12)) (e := T_string) (sz := 1) (Clo.map fS _), trivial⟩ rfl
  have hge1 := le_of_dec hz1
  conv => whnf
  refine LoopOK.weak _ _ ?_ ?_ ?_ (LoopOK.ind (fun i : Nat => x.doors.length - i) (fun i => [(1, .ref (F_ref05_names, 1) 0), (3, .own (F_ref05_names, 12) (grow (x.stops ++ x.paths.flatMap nmPth) nmDor x.doors i).length), (5, .int .i64 i)]) (fun i => [((F_ref05_names, 1), .cells T_api_Sheet (cSht x)), ((F_ref05_names, 12), .row T_string 1 ((grow (x.stops ++ x.paths.flatMap nmPth) nmDor x.doors i).map cS))]) (fun i => i ≤ x.doors.length) ?_ 0 (by omega))
  · exact ⟨rfl, own_len (congrArg List.length (grow_go hge1 rfl)), rfl, trivial⟩
  · exact ⟨rfl, row_to (grow_go hge1 rfl) rfl, trivial⟩
  · exact chk_mk ⟨rfl, rfl, rfl, trivial⟩ ⟨rfl, cloX_row (l := (F_ref05_names, 12)) (e := T_string) (sz := 1) (Clo.map fS _), trivial⟩ rfl
  intro i2 hi IH
  refine LoopOK.round hTh hMx ?_
  conv => whnf
  refine cond_split (fun h => ?_) (fun hz2 => ?_)
  · have hlt := lt_of_dec h
    have hgl := grow_len (pre := (x.stops ++ x.paths.flatMap nmPth)) (f := nmDor) hlt
    have hgb : (grow (x.stops ++ x.paths.flatMap nmPth) nmDor x.doors (i2 + 1)).length ≤ 4294967296 := Nat.le_trans grow_le (by have := l2; omega)
    conv => whnf
    refine IndexTo.at (map_at cDor hlt) ?_
    conv => whnf
    refine IndexTo.at (map_at cDor hlt) ?_
    conv => whnf
    refine IndexTo.at (map_at cDor hlt) ?_
    conv => whnf
    refine ⟨by simp only [List.length_map, List.length_append, List.length_cons, List.length_nil], by simp only [nmDor, List.length_cons, List.length_nil, List.length_map, List.length_append] at hgl ⊢; omega, ?_⟩
    conv => whnf
    refine ⟨by kernel_rfl, ?_⟩
    conv => whnf
    refine WrapTo.i64 (by omega) ?_
    conv => whnf
    refine LoopOK.weak _ _ ?_ ?_ ?_ (IH (i2 + 1) (by omega) (by omega))
    · exact ⟨rfl, own_len (by simp only [nmDor, List.length_cons, List.length_nil, List.length_map, List.length_append] at hgl ⊢; omega), rfl, trivial⟩
    · exact ⟨rfl, congrArg (fun z => some (ABox.row T_string 1 z)) (grow_succ hlt), trivial⟩
    · exact chk_mk ⟨rfl, rfl, rfl, trivial⟩ ⟨rfl, cloX_row (l := (F_ref05_names, 12)) (e := T_string) (sz := 1) (Clo.map fS _), trivial⟩ rfl
  have hge2 := le_of_dec hz2
  conv => whnf
  refine LoopOK.weak _ _ ?_ ?_ ?_ (LoopOK.ind (fun i : Nat => x.routes.length - i) (fun i => [(1, .ref (F_ref05_names, 1) 0), (3, .own (F_ref05_names, 12) (grow (x.stops ++ x.paths.flatMap nmPth ++ x.doors.flatMap nmDor) nmRte x.routes i).length), (6, .int .i64 i)]) (fun i => [((F_ref05_names, 1), .cells T_api_Sheet (cSht x)), ((F_ref05_names, 12), .row T_string 1 ((grow (x.stops ++ x.paths.flatMap nmPth ++ x.doors.flatMap nmDor) nmRte x.routes i).map cS))]) (fun i => i ≤ x.routes.length) ?_ 0 (by omega))
  · exact ⟨rfl, own_len (congrArg List.length (grow_go hge2 rfl)), rfl, trivial⟩
  · exact ⟨rfl, row_to (grow_go hge2 rfl) rfl, trivial⟩
  · exact chk_mk ⟨rfl, rfl, rfl, trivial⟩ ⟨rfl, cloX_row (l := (F_ref05_names, 12)) (e := T_string) (sz := 1) (Clo.map fS _), trivial⟩ rfl
  intro i3 hi IH
  refine LoopOK.round hTh hMx ?_
  conv => whnf
  refine cond_split (fun h => ?_) (fun hz3 => ?_)
  · have hlt := lt_of_dec h
    have hgl := grow_len (pre := (x.stops ++ x.paths.flatMap nmPth ++ x.doors.flatMap nmDor)) (f := nmRte) hlt
    have hgb : (grow (x.stops ++ x.paths.flatMap nmPth ++ x.doors.flatMap nmDor) nmRte x.routes (i3 + 1)).length ≤ 4294967296 := Nat.le_trans grow_le (by have := l3; omega)
    conv => whnf
    refine IndexTo.at (map_at cRte hlt) ?_
    conv => whnf
    refine ⟨by simp only [List.length_map, List.length_append, List.length_cons, List.length_nil], by simp only [nmRte, List.length_cons, List.length_nil, List.length_map, List.length_append] at hgl ⊢; omega, ?_⟩
    conv => whnf
    refine IndexTo.at (map_at cRte hlt) ?_
    conv => whnf
    refine ⟨by simp only [List.length_map, List.length_append, List.length_cons, List.length_nil], by simp only [nmRte, List.length_cons, List.length_nil, List.length_map, List.length_append] at hgl ⊢; omega, ?_⟩
    conv => whnf
    refine ⟨by kernel_rfl, ?_⟩
    conv => whnf
    refine WrapTo.i64 (by omega) ?_
    conv => whnf
    refine LoopOK.weak _ _ ?_ ?_ ?_ (IH (i3 + 1) (by omega) (by omega))
    · exact ⟨rfl, own_len (by simp only [nmRte, List.length_cons, List.length_nil, List.length_map, List.length_append] at hgl ⊢; omega), rfl, trivial⟩
    · exact ⟨rfl, congrArg (fun z => some (ABox.row T_string 1 z)) ((by rw [List.append_assoc]; exact grow_succ hlt)), trivial⟩
    · exact chk_mk ⟨rfl, rfl, rfl, trivial⟩ ⟨rfl, cloX_row (l := (F_ref05_names, 12)) (e := T_string) (sz := 1) (Clo.map fS _), trivial⟩ rfl
  have hge3 := le_of_dec hz3
  conv => whnf
  refine LoopOK.weak _ _ ?_ ?_ ?_ (LoopOK.ind (fun i : Nat => x.trips.length - i) (fun i => [(1, .ref (F_ref05_names, 1) 0), (3, .own (F_ref05_names, 12) (grow (x.stops ++ x.paths.flatMap nmPth ++ x.doors.flatMap nmDor ++ x.routes.flatMap nmRte) nmTrp x.trips i).length), (7, .int .i64 i)]) (fun i => [((F_ref05_names, 1), .cells T_api_Sheet (cSht x)), ((F_ref05_names, 12), .row T_string 1 ((grow (x.stops ++ x.paths.flatMap nmPth ++ x.doors.flatMap nmDor ++ x.routes.flatMap nmRte) nmTrp x.trips i).map cS))]) (fun i => i ≤ x.trips.length) ?_ 0 (by omega))
  · exact ⟨rfl, own_len (congrArg List.length (grow_go hge3 rfl)), rfl, trivial⟩
  · exact ⟨rfl, row_to (grow_go hge3 rfl) rfl, trivial⟩
  · exact chk_mk ⟨rfl, rfl, rfl, trivial⟩ ⟨rfl, cloX_row (l := (F_ref05_names, 12)) (e := T_string) (sz := 1) (Clo.map fS _), trivial⟩ rfl
  intro i4 hi IH
  refine LoopOK.round hTh hMx ?_
  conv => whnf
  refine cond_split (fun h => ?_) (fun hz4 => ?_)
  · have hlt := lt_of_dec h
    have hgl := grow_len (pre := (x.stops ++ x.paths.flatMap nmPth ++ x.doors.flatMap nmDor ++ x.routes.flatMap nmRte)) (f := nmTrp) hlt
    have hgb : (grow (x.stops ++ x.paths.flatMap nmPth ++ x.doors.flatMap nmDor ++ x.routes.flatMap nmRte) nmTrp x.trips (i4 + 1)).length ≤ 4294967296 := Nat.le_trans grow_le (by have := l4; omega)
    conv => whnf
    refine IndexTo.at (map_at cTrp hlt) ?_
    conv => whnf
    refine IndexTo.at (map_at cTrp hlt) ?_
    conv => whnf
    refine ⟨by simp only [List.length_map, List.length_append, List.length_cons, List.length_nil], by simp only [nmTrp, List.length_cons, List.length_nil, List.length_map, List.length_append] at hgl ⊢; omega, ?_⟩
    conv => whnf
    refine ⟨by kernel_rfl, ?_⟩
    conv => whnf
    refine WrapTo.i64 (by omega) ?_
    conv => whnf
    refine LoopOK.weak _ _ ?_ ?_ ?_ (IH (i4 + 1) (by omega) (by omega))
    · exact ⟨rfl, own_len (by simp only [nmTrp, List.length_cons, List.length_nil, List.length_map, List.length_append] at hgl ⊢; omega), rfl, trivial⟩
    · exact ⟨rfl, congrArg (fun z => some (ABox.row T_string 1 z)) (grow_succ hlt), trivial⟩
    · exact chk_mk ⟨rfl, rfl, rfl, trivial⟩ ⟨rfl, cloX_row (l := (F_ref05_names, 12)) (e := T_string) (sz := 1) (Clo.map fS _), trivial⟩ rfl
  have hge4 := le_of_dec hz4
  conv => whnf
  refine LoopOK.weak _ _ ?_ ?_ ?_ (LoopOK.ind (fun i : Nat => x.hazards.length - i) (fun i => [(1, .ref (F_ref05_names, 1) 0), (3, .own (F_ref05_names, 12) (grow (x.stops ++ x.paths.flatMap nmPth ++ x.doors.flatMap nmDor ++ x.routes.flatMap nmRte ++ x.trips.flatMap nmTrp) nmHzd x.hazards i).length), (8, .int .i64 i)]) (fun i => [((F_ref05_names, 1), .cells T_api_Sheet (cSht x)), ((F_ref05_names, 12), .row T_string 1 ((grow (x.stops ++ x.paths.flatMap nmPth ++ x.doors.flatMap nmDor ++ x.routes.flatMap nmRte ++ x.trips.flatMap nmTrp) nmHzd x.hazards i).map cS))]) (fun i => i ≤ x.hazards.length) ?_ 0 (by omega))
  · exact ⟨rfl, own_len (congrArg List.length (grow_go hge4 rfl)), rfl, trivial⟩
  · exact ⟨rfl, row_to (grow_go hge4 rfl) rfl, trivial⟩
  · exact chk_mk ⟨rfl, rfl, rfl, trivial⟩ ⟨rfl, cloX_row (l := (F_ref05_names, 12)) (e := T_string) (sz := 1) (Clo.map fS _), trivial⟩ rfl
  intro i5 hi IH
  refine LoopOK.round hTh hMx ?_
  conv => whnf
  refine cond_split (fun h => ?_) (fun hz5 => ?_)
  · have hlt := lt_of_dec h
    have hgl := grow_len (pre := (x.stops ++ x.paths.flatMap nmPth ++ x.doors.flatMap nmDor ++ x.routes.flatMap nmRte ++ x.trips.flatMap nmTrp)) (f := nmHzd) hlt
    have hgb : (grow (x.stops ++ x.paths.flatMap nmPth ++ x.doors.flatMap nmDor ++ x.routes.flatMap nmRte ++ x.trips.flatMap nmTrp) nmHzd x.hazards (i5 + 1)).length ≤ 4294967296 := Nat.le_trans grow_le (by have := l4; simp only [namesL] at hl; omega)
    conv => whnf
    refine IndexTo.at (map_at cHzd hlt) ?_
    conv => whnf
    refine IndexTo.at (map_at cHzd hlt) ?_
    conv => whnf
    refine ⟨by simp only [List.length_map, List.length_append, List.length_cons, List.length_nil], by simp only [nmHzd, List.length_cons, List.length_nil, List.length_map, List.length_append] at hgl ⊢; omega, ?_⟩
    conv => whnf
    refine ⟨by kernel_rfl, ?_⟩
    conv => whnf
    refine WrapTo.i64 (by omega) ?_
    conv => whnf
    refine LoopOK.weak _ _ ?_ ?_ ?_ (IH (i5 + 1) (by omega) (by omega))
    · exact ⟨rfl, own_len (by simp only [nmHzd, List.length_cons, List.length_nil, List.length_map, List.length_append] at hgl ⊢; omega), rfl, trivial⟩
    · exact ⟨rfl, congrArg (fun z => some (ABox.row T_string 1 z)) (grow_succ hlt), trivial⟩
    · exact chk_mk ⟨rfl, rfl, rfl, trivial⟩ ⟨rfl, cloX_row (l := (F_ref05_names, 12)) (e := T_string) (sz := 1) (Clo.map fS _), trivial⟩ rfl
  have hge5 := le_of_dec hz5
  conv => whnf
  have hfin : grow (x.stops ++ x.paths.flatMap nmPth ++ x.doors.flatMap nmDor ++ x.routes.flatMap nmRte ++ x.trips.flatMap nmTrp) nmHzd x.hazards i5 = namesL x := grow_all hge5
  rw [← hfin]
  exact Fin.own hTh rfl rfl rfl (by simp only [List.length_map]) (Clo.map fS _)

theorem m_ref05_numbers (G : GlP) (x : Sht) (hx : ShtFits x) : Meets Pg G F_ref05_numbers [.agg (cSht x)] [] (.lst 1 ((numbersL x).map cI)) [] := by
  have hl := hx.numbers
  have b1 := hx.paths
  have b2 := hx.doors
  have b3 := hx.routes
  have b4 := hx.trips
  have b5 := hx.hazards
  have l1 : ([x.hor] ++ x.paths.flatMap nuPth).length ≤ (numbersL x).length := by simp only [numbersL, List.length_append]; omega
  have l2 : ([x.hor] ++ x.paths.flatMap nuPth ++ x.doors.flatMap nuDor).length ≤ (numbersL x).length := by simp only [numbersL, List.length_append]; omega
  have l3 : ([x.hor] ++ x.paths.flatMap nuPth ++ x.doors.flatMap nuDor ++ x.routes.flatMap nuRte).length ≤ (numbersL x).length := by simp only [numbersL, List.length_append]; omega
  have l4 : ([x.hor] ++ x.paths.flatMap nuPth ++ x.doors.flatMap nuDor ++ x.routes.flatMap nuRte ++ x.trips.flatMap nuTrp).length ≤ (numbersL x).length := by simp only [numbersL, List.length_append]; omega
  have l0 : ([x.hor]).length ≤ (numbersL x).length := by simp only [numbersL, List.length_append]; omega
  refine meets_pure (F := { fe_ref05_numbers with rows := [11] }) hTh hMx func_ref05_numbers rfl call_ref05_numbers rfl rfl rfl ?_
  conv => whnf
  refine OpTo.mkRow hTh (F_ref05_numbers, 11) rfl rfl rfl rfl rfl (by decide) (by decide) (by decide) (by decide) rfl rfl ?_
  conv => whnf
  refine LoopOK.weak _ _ ?_ ?_ ?_ (LoopOK.ind (fun i : Nat => x.paths.length - i) (fun i => [(1, .ref (F_ref05_numbers, 1) 0), (3, .own (F_ref05_numbers, 11) (grow ([x.hor]) nuPth x.paths i).length), (4, .int .i64 i)]) (fun i => [((F_ref05_numbers, 1), .cells T_api_Sheet (cSht x)), ((F_ref05_numbers, 11), .row T_i64 1 ((grow ([x.hor]) nuPth x.paths i).map cI))]) (fun i => i ≤ x.paths.length) ?_ 0 (by omega))
  · exact ⟨rfl, own_len (by rw [grow_zero]; first | rfl | rw [List.length_map]), rfl, trivial⟩
  · exact ⟨rfl, row_to (grow_zero.symm) rfl, trivial⟩
  · exact chk_mk ⟨rfl, rfl, rfl, trivial⟩ ⟨rfl, cloX_row (l := (F_ref05_numbers, 11)) (e := T_i64) (sz := 1) (Clo.map fI _), trivial⟩ rfl
  intro i1 hi IH
  refine LoopOK.round hTh hMx ?_
  conv => whnf
  refine cond_split (fun h => ?_) (fun hz1 => ?_)
  · have hlt := lt_of_dec h
    have hgl := grow_len (pre := ([x.hor])) (f := nuPth) hlt
    have hgb : (grow ([x.hor]) nuPth x.paths (i1 + 1)).length ≤ 4294967296 := Nat.le_trans grow_le (by have := l1; omega)
    conv => whnf
    refine IndexTo.at (map_at cPth hlt) ?_
    conv => whnf
    refine ⟨by simp only [List.length_map, List.length_append, List.length_cons, List.length_nil], by simp only [nuPth, List.length_cons, List.length_nil, List.length_map, List.length_append] at hgl ⊢; omega, ?_⟩
    conv => whnf
    refine WrapTo.i64 (by omega) ?_
    conv => whnf
    refine LoopOK.weak _ _ ?_ ?_ ?_ (IH (i1 + 1) (by omega) (by omega))
    · exact ⟨rfl, own_len (by simp only [nuPth, List.length_cons, List.length_nil, List.length_map, List.length_append] at hgl ⊢; omega), rfl, trivial⟩
    · exact ⟨rfl, congrArg (fun z => some (ABox.row T_i64 1 z)) (grow_succ hlt), trivial⟩
    · exact chk_mk ⟨rfl, rfl, rfl, trivial⟩ ⟨rfl, cloX_row (l := (F_ref05_numbers, 11)) (e := T_i64) (sz := 1) (Clo.map fI _), trivial⟩ rfl
  have hge1 := le_of_dec hz1
  conv => whnf
  refine LoopOK.weak _ _ ?_ ?_ ?_ (LoopOK.ind (fun i : Nat => x.doors.length - i) (fun i => [(1, .ref (F_ref05_numbers, 1) 0), (3, .own (F_ref05_numbers, 11) (grow ([x.hor] ++ x.paths.flatMap nuPth) nuDor x.doors i).length), (5, .int .i64 i)]) (fun i => [((F_ref05_numbers, 1), .cells T_api_Sheet (cSht x)), ((F_ref05_numbers, 11), .row T_i64 1 ((grow ([x.hor] ++ x.paths.flatMap nuPth) nuDor x.doors i).map cI))]) (fun i => i ≤ x.doors.length) ?_ 0 (by omega))
  · exact ⟨rfl, own_len (congrArg List.length (grow_go hge1 rfl)), rfl, trivial⟩
  · exact ⟨rfl, row_to (grow_go hge1 rfl) rfl, trivial⟩
  · exact chk_mk ⟨rfl, rfl, rfl, trivial⟩ ⟨rfl, cloX_row (l := (F_ref05_numbers, 11)) (e := T_i64) (sz := 1) (Clo.map fI _), trivial⟩ rfl
  intro i2 hi IH
  refine LoopOK.round hTh hMx ?_
  conv => whnf
  refine cond_split (fun h => ?_) (fun hz2 => ?_)
  · have hlt := lt_of_dec h
    have hgl := grow_len (pre := ([x.hor] ++ x.paths.flatMap nuPth)) (f := nuDor) hlt
    have hgb : (grow ([x.hor] ++ x.paths.flatMap nuPth) nuDor x.doors (i2 + 1)).length ≤ 4294967296 := Nat.le_trans grow_le (by have := l2; omega)
    conv => whnf
    refine IndexTo.at (map_at cDor hlt) ?_
    conv => whnf
    refine IndexTo.at (map_at cDor hlt) ?_
    conv => whnf
    refine IndexTo.at (map_at cDor hlt) ?_
    conv => whnf
    refine IndexTo.at (map_at cDor hlt) ?_
    conv => whnf
    refine ⟨by simp only [List.length_map, List.length_append, List.length_cons, List.length_nil], by simp only [nuDor, List.length_cons, List.length_nil, List.length_map, List.length_append] at hgl ⊢; omega, ?_⟩
    conv => whnf
    refine ⟨by kernel_rfl, ?_⟩
    conv => whnf
    refine WrapTo.i64 (by omega) ?_
    conv => whnf
    refine LoopOK.weak _ _ ?_ ?_ ?_ (IH (i2 + 1) (by omega) (by omega))
    · exact ⟨rfl, own_len (by simp only [nuDor, List.length_cons, List.length_nil, List.length_map, List.length_append] at hgl ⊢; omega), rfl, trivial⟩
    · exact ⟨rfl, congrArg (fun z => some (ABox.row T_i64 1 z)) (grow_succ hlt), trivial⟩
    · exact chk_mk ⟨rfl, rfl, rfl, trivial⟩ ⟨rfl, cloX_row (l := (F_ref05_numbers, 11)) (e := T_i64) (sz := 1) (Clo.map fI _), trivial⟩ rfl
  have hge2 := le_of_dec hz2
  conv => whnf
  refine LoopOK.weak _ _ ?_ ?_ ?_ (LoopOK.ind (fun i : Nat => x.routes.length - i) (fun i => [(1, .ref (F_ref05_numbers, 1) 0), (3, .own (F_ref05_numbers, 11) (grow ([x.hor] ++ x.paths.flatMap nuPth ++ x.doors.flatMap nuDor) nuRte x.routes i).length), (6, .int .i64 i)]) (fun i => [((F_ref05_numbers, 1), .cells T_api_Sheet (cSht x)), ((F_ref05_numbers, 11), .row T_i64 1 ((grow ([x.hor] ++ x.paths.flatMap nuPth ++ x.doors.flatMap nuDor) nuRte x.routes i).map cI))]) (fun i => i ≤ x.routes.length) ?_ 0 (by omega))
  · exact ⟨rfl, own_len (congrArg List.length (grow_go hge2 rfl)), rfl, trivial⟩
  · exact ⟨rfl, row_to (grow_go hge2 rfl) rfl, trivial⟩
  · exact chk_mk ⟨rfl, rfl, rfl, trivial⟩ ⟨rfl, cloX_row (l := (F_ref05_numbers, 11)) (e := T_i64) (sz := 1) (Clo.map fI _), trivial⟩ rfl
  intro i3 hi IH
  refine LoopOK.round hTh hMx ?_
  conv => whnf
  refine cond_split (fun h => ?_) (fun hz3 => ?_)
  · have hlt := lt_of_dec h
    have hgl := grow_len (pre := ([x.hor] ++ x.paths.flatMap nuPth ++ x.doors.flatMap nuDor)) (f := nuRte) hlt
    have hgb : (grow ([x.hor] ++ x.paths.flatMap nuPth ++ x.doors.flatMap nuDor) nuRte x.routes (i3 + 1)).length ≤ 4294967296 := Nat.le_trans grow_le (by have := l3; omega)
    conv => whnf
    refine IndexTo.at (map_at cRte hlt) ?_
    conv => whnf
    refine ⟨by simp only [List.length_map, List.length_append, List.length_cons, List.length_nil], by simp only [nuRte, List.length_cons, List.length_nil, List.length_map, List.length_append] at hgl ⊢; omega, ?_⟩
    conv => whnf
    refine IndexTo.at (map_at cRte hlt) ?_
    conv => whnf
    refine ⟨by simp only [List.length_map, List.length_append, List.length_cons, List.length_nil], by simp only [nuRte, List.length_cons, List.length_nil, List.length_map, List.length_append] at hgl ⊢; omega, ?_⟩
    conv => whnf
    refine ⟨by kernel_rfl, ?_⟩
    conv => whnf
    refine WrapTo.i64 (by omega) ?_
    conv => whnf
    refine LoopOK.weak _ _ ?_ ?_ ?_ (IH (i3 + 1) (by omega) (by omega))
    · exact ⟨rfl, own_len (by simp only [nuRte, List.length_cons, List.length_nil, List.length_map, List.length_append] at hgl ⊢; omega), rfl, trivial⟩
    · exact ⟨rfl, congrArg (fun z => some (ABox.row T_i64 1 z)) ((by rw [List.append_assoc, ← List.map_append]; exact grow_succ hlt)), trivial⟩
    · exact chk_mk ⟨rfl, rfl, rfl, trivial⟩ ⟨rfl, cloX_row (l := (F_ref05_numbers, 11)) (e := T_i64) (sz := 1) (Clo.map fI _), trivial⟩ rfl
  have hge3 := le_of_dec hz3
  conv => whnf
  refine LoopOK.weak _ _ ?_ ?_ ?_ (LoopOK.ind (fun i : Nat => x.trips.length - i) (fun i => [(1, .ref (F_ref05_numbers, 1) 0), (3, .own (F_ref05_numbers, 11) (grow ([x.hor] ++ x.paths.flatMap nuPth ++ x.doors.flatMap nuDor ++ x.routes.flatMap nuRte) nuTrp x.trips i).length), (7, .int .i64 i)]) (fun i => [((F_ref05_numbers, 1), .cells T_api_Sheet (cSht x)), ((F_ref05_numbers, 11), .row T_i64 1 ((grow ([x.hor] ++ x.paths.flatMap nuPth ++ x.doors.flatMap nuDor ++ x.routes.flatMap nuRte) nuTrp x.trips i).map cI))]) (fun i => i ≤ x.trips.length) ?_ 0 (by omega))
  · exact ⟨rfl, own_len (congrArg List.length (grow_go hge3 rfl)), rfl, trivial⟩
  · exact ⟨rfl, row_to (grow_go hge3 rfl) rfl, trivial⟩
  · exact chk_mk ⟨rfl, rfl, rfl, trivial⟩ ⟨rfl, cloX_row (l := (F_ref05_numbers, 11)) (e := T_i64) (sz := 1) (Clo.map fI _), trivial⟩ rfl
  intro i4 hi IH
  refine LoopOK.round hTh hMx ?_
  conv => whnf
  refine cond_split (fun h => ?_) (fun hz4 => ?_)
  · have hlt := lt_of_dec h
    have hgl := grow_len (pre := ([x.hor] ++ x.paths.flatMap nuPth ++ x.doors.flatMap nuDor ++ x.routes.flatMap nuRte)) (f := nuTrp) hlt
    have hgb : (grow ([x.hor] ++ x.paths.flatMap nuPth ++ x.doors.flatMap nuDor ++ x.routes.flatMap nuRte) nuTrp x.trips (i4 + 1)).length ≤ 4294967296 := Nat.le_trans grow_le (by have := l4; omega)
    conv => whnf
    refine IndexTo.at (map_at cTrp hlt) ?_
    conv => whnf
    refine IndexTo.at (map_at cTrp hlt) ?_
    conv => whnf
    refine IndexTo.at (map_at cTrp hlt) ?_
    conv => whnf
    refine ⟨by simp only [List.length_map, List.length_append, List.length_cons, List.length_nil], by simp only [nuTrp, List.length_cons, List.length_nil, List.length_map, List.length_append] at hgl ⊢; omega, ?_⟩
    conv => whnf
    refine ⟨by kernel_rfl, ?_⟩
    conv => whnf
    refine WrapTo.i64 (by omega) ?_
    conv => whnf
    refine LoopOK.weak _ _ ?_ ?_ ?_ (IH (i4 + 1) (by omega) (by omega))
    · exact ⟨rfl, own_len (by simp only [nuTrp, List.length_cons, List.length_nil, List.length_map, List.length_append] at hgl ⊢; omega), rfl, trivial⟩
    · exact ⟨rfl, congrArg (fun z => some (ABox.row T_i64 1 z)) (grow_succ hlt), trivial⟩
    · exact chk_mk ⟨rfl, rfl, rfl, trivial⟩ ⟨rfl, cloX_row (l := (F_ref05_numbers, 11)) (e := T_i64) (sz := 1) (Clo.map fI _), trivial⟩ rfl
  have hge4 := le_of_dec hz4
  conv => whnf
  refine LoopOK.weak _ _ ?_ ?_ ?_ (LoopOK.ind (fun i : Nat => x.hazards.length - i) (fun i => [(1, .ref (F_ref05_numbers, 1) 0), (3, .own (F_ref05_numbers, 11) (grow ([x.hor] ++ x.paths.flatMap nuPth ++ x.doors.flatMap nuDor ++ x.routes.flatMap nuRte ++ x.trips.flatMap nuTrp) nuHzd x.hazards i).length), (8, .int .i64 i)]) (fun i => [((F_ref05_numbers, 1), .cells T_api_Sheet (cSht x)), ((F_ref05_numbers, 11), .row T_i64 1 ((grow ([x.hor] ++ x.paths.flatMap nuPth ++ x.doors.flatMap nuDor ++ x.routes.flatMap nuRte ++ x.trips.flatMap nuTrp) nuHzd x.hazards i).map cI))]) (fun i => i ≤ x.hazards.length) ?_ 0 (by omega))
  · exact ⟨rfl, own_len (congrArg List.length (grow_go hge4 rfl)), rfl, trivial⟩
  · exact ⟨rfl, row_to (grow_go hge4 rfl) rfl, trivial⟩
  · exact chk_mk ⟨rfl, rfl, rfl, trivial⟩ ⟨rfl, cloX_row (l := (F_ref05_numbers, 11)) (e := T_i64) (sz := 1) (Clo.map fI _), trivial⟩ rfl
  intro i5 hi IH
  refine LoopOK.round hTh hMx ?_
  conv => whnf
  refine cond_split (fun h => ?_) (fun hz5 => ?_)
  · have hlt := lt_of_dec h
    have hgl := grow_len (pre := ([x.hor] ++ x.paths.flatMap nuPth ++ x.doors.flatMap nuDor ++ x.routes.flatMap nuRte ++ x.trips.flatMap nuTrp)) (f := nuHzd) hlt
    have hgb : (grow ([x.hor] ++ x.paths.flatMap nuPth ++ x.doors.flatMap nuDor ++ x.routes.flatMap nuRte ++ x.trips.flatMap nuTrp) nuHzd x.hazards (i5 + 1)).length ≤ 4294967296 := Nat.le_trans grow_le (by have := l4; simp only [numbersL] at hl; omega)
    conv => whnf
    refine IndexTo.at (map_at cHzd hlt) ?_
    conv => whnf
    refine IndexTo.at (map_at cHzd hlt) ?_
    conv => whnf
    refine IndexTo.at (map_at cHzd hlt) ?_
    conv => whnf
    refine ⟨by simp only [List.length_map, List.length_append, List.length_cons, List.length_nil], by simp only [nuHzd, List.length_cons, List.length_nil, List.length_map, List.length_append] at hgl ⊢; omega, ?_⟩
    conv => whnf
    refine ⟨by kernel_rfl, ?_⟩
    conv => whnf
    refine WrapTo.i64 (by omega) ?_
    conv => whnf
    refine LoopOK.weak _ _ ?_ ?_ ?_ (IH (i5 + 1) (by omega) (by omega))
    · exact ⟨rfl, own_len (by simp only [nuHzd, List.length_cons, List.length_nil, List.length_map, List.length_append] at hgl ⊢; omega), rfl, trivial⟩
    · exact ⟨rfl, congrArg (fun z => some (ABox.row T_i64 1 z)) (grow_succ hlt), trivial⟩
    · exact chk_mk ⟨rfl, rfl, rfl, trivial⟩ ⟨rfl, cloX_row (l := (F_ref05_numbers, 11)) (e := T_i64) (sz := 1) (Clo.map fI _), trivial⟩ rfl
  have hge5 := le_of_dec hz5
  conv => whnf
  have hfin : grow ([x.hor] ++ x.paths.flatMap nuPth ++ x.doors.flatMap nuDor ++ x.routes.flatMap nuRte ++ x.trips.flatMap nuTrp) nuHzd x.hazards i5 = numbersL x := grow_all hge5
  rw [← hfin]
  exact Fin.own hTh rfl rfl rfl (by simp only [List.length_map]) (Clo.map fI _)

theorem m_sheet_Check_1 (G : GlP) (hR : Res G) (s : Str) (hl : s.length ≤ 9223372036854775807) : Meets Pg G F_sheet_Check_1 [.str s] [] (.bool (!nameOK s)) [] := by
  refine meets_pure (F := fe_sheet_Check_1) hTh hMx func_sheet_Check_1 rfl call_sheet_Check_1 rfl rfl rfl ?_
  conv => whnf
  refine CallTo.fn (m_lex_Name G hR s hl) ?_
  conv => whnf
  exact Fin.one hTh rfl (rfl) rfl
theorem m_sheet_Check_2 (G : GlP) (n : Int) : Meets Pg G F_sheet_Check_2 [.int .i64 n] [] (.bool (!tickOK n)) [] := by
  refine meets_pure (F := fe_sheet_Check_2) hTh hMx func_sheet_Check_2 rfl call_sheet_Check_2 rfl rfl rfl ?_
  conv => whnf
  refine CallTo.fn (m_tick_Check G n) ?_
  conv => whnf
  exact Fin.one hTh rfl (by cases h : tickOK n <;> rfl) rfl
theorem m_sheet_Check_3 (G : GlP) (r : Rte) (h1 : r.stops.length ≤ 65536) : Meets Pg G F_sheet_Check_3 [.agg (cRte r)] [] (.bool (!rteOK r)) [] := by
  have e1 : (r.stops.map cS).length = r.stops.length := List.length_map _
  have e2 : (r.rides.map cI).length = r.rides.length := List.length_map _
  have e3 : (r.stays.map cI).length = r.stays.length := List.length_map _
  refine meets_pure (F := fe_sheet_Check_3) hTh hMx func_sheet_Check_3 rfl call_sheet_Check_3 rfl rfl rfl ?_
  conv => whnf
  refine cond_split (fun c1 => ?_) (fun c1 => ?_)
  · conv => whnf
    have : rteOK r = false := by simp [rteOK] at c1 ⊢; omega
    exact Fin.one hTh rfl (by simp [getT, this]) rfl
  conv => whnf
  refine cond_split (fun c2 => ?_) (fun c2 => ?_)
  · conv => whnf
    have : rteOK r = false := by simp [rteOK] at c2 ⊢; omega
    exact Fin.one hTh rfl (by simp [getT, this]) rfl
  conv => whnf
  refine WrapTo.i64 (by omega) ?_
  conv => whnf
  refine cond_split (fun c3 => ?_) (fun c3 => ?_)
  · conv => whnf
    have : rteOK r = false := by simp [rteOK] at c3 ⊢; omega
    exact Fin.one hTh rfl (by simp [getT, this]) rfl
  conv => whnf
  refine WrapTo.i64 (by omega) ?_
  conv => whnf
  have : (!rteOK r) = (((r.stays.map cI).length : Int) != ((r.stops.map cS).length : Int) - 2) := by
    simp only [e1, e2, e3] at c1 c2 c3 ⊢
    have d1 : (2 : Int) ≤ r.stops.length := by simpa using c1
    have d2 : (r.stops.length : Int) ≤ 32 := by simpa using c2
    have d3 : ((r.rides.length : Int) == (r.stops.length : Int) - 1) = true := by simpa using c3
    have d1' : 2 ≤ r.stops.length := by omega
    have d2' : r.stops.length ≤ 32 := by omega
    simp only [rteOK, d3, d1', d2', decide_true, Bool.true_and]
    rfl
  exact Fin.one hTh rfl (by rw [this]; rfl) rfl
theorem m_sheet_Check (G : GlP) (hR : Res G) (x : Sht) (hx : ShtFits x) : Meets Pg G F_sheet_Check [.agg (cSht x)] [] (.int .i64 (shtErr x)) [] := by
  have q1 := hx.names
  have q2 := hx.numbers
  have q3 := hx.routes
  have e1 : (x.stops.map cS).length = x.stops.length := List.length_map _
  have e2 : (x.paths.map cPth).length = x.paths.length := List.length_map _
  have e3 : (x.doors.map cDor).length = x.doors.length := List.length_map _
  have e4 : (x.routes.map cRte).length = x.routes.length := List.length_map _
  have e5 : (x.trips.map cTrp).length = x.trips.length := List.length_map _
  have e6 : (x.hazards.map cHzd).length = x.hazards.length := List.length_map _
  refine meets_pure (F := fe_sheet_Check) hTh hMx func_sheet_Check rfl call_sheet_Check rfl rfl rfl ?_
  conv => whnf
  iterate 5
    refine cond_split (fun h => ?_) (fun _ => ?_)
    · conv => whnf
      have : tooLong x = true := by simp [tooLong] at h ⊢; omega
      exact Fin.one hTh rfl (by simp [getT, ofValue, shtErr, this]) rfl
    conv => whnf
  refine cond_split (fun h => ?_) (fun _ => ?_)
  · conv => whnf
    have : tooLong x = true := by simp [tooLong] at h ⊢; omega
    exact Fin.one hTh rfl (by simp [getT, ofValue, shtErr, this]) rfl
  conv => whnf
  have ht : tooLong x = false := by simp_all [tooLong]; omega
  refine CallTo.fn (m_sheet_names G x hx) ?_
  conv => whnf
  refine CallTo.fn (m_slices_ContainsFunc_string_string G (namesL x) _ (fun s => !nameOK s) (fun s hs => MeetsV.of (m_sheet_Check_1 G hR s (hx.strs s hs))) rfl q1) ?_
  conv => whnf
  refine cond_split (fun h1 => ?_) (fun h1 => ?_)
  · conv => whnf
    exact Fin.one hTh rfl (by simp [getT, ofValue, shtErr, ht, h1]) rfl
  conv => whnf
  refine CallTo.fn (m_sheet_numbers G x hx) ?_
  conv => whnf
  refine CallTo.fn (m_slices_ContainsFunc_int64_int64 G (numbersL x) _ (fun n => !tickOK n) (fun n _ => MeetsV.of (m_sheet_Check_2 G n)) rfl q2) ?_
  conv => whnf
  refine cond_split (fun h2 => ?_) (fun h2 => ?_)
  · conv => whnf
    exact Fin.one hTh rfl (by simp [getT, ofValue, shtErr, ht, h1, h2]) rfl
  conv => whnf
  refine CallTo.fn (m_slices_ContainsFunc_api_Route_api_Route G x.routes _ (fun r => !rteOK r) (fun r hr => MeetsV.of (m_sheet_Check_3 G r (hx.each r hr).stops)) rfl (by omega)) ?_
  conv => whnf
  refine cond_split (fun h3 => ?_) (fun h3 => ?_)
  · conv => whnf
    exact Fin.one hTh rfl (by simp [getT, ofValue, shtErr, ht, h1, h2, h3]) rfl
  · conv => whnf
    exact Fin.one hTh rfl (by simp [getT, ofValue, shtErr, ht, h1, h2, h3]) rfl
theorem m_ref05_Check (G : GlP) (x : Sht) (hx : ShtFits x) : Meets Pg G F_ref05_Check [.agg (cSht x)] [] (.int .i64 (shtErr x)) [] := by
  have q1 := hx.names
  have q2 := hx.numbers
  have q3 := hx.routes
  refine meets_pure (F := fe_ref05_Check) hTh hMx func_ref05_Check rfl call_ref05_Check rfl rfl rfl ?_
  conv => whnf
  iterate 5
    refine cond_split (fun h => ?_) (fun _ => ?_)
    · conv => whnf
      have : tooLong x = true := by simp [tooLong] at h ⊢; omega
      exact Fin.one hTh rfl (by simp [getT, ofValue, shtErr, this]) rfl
    conv => whnf
  refine cond_split (fun h => ?_) (fun _ => ?_)
  · conv => whnf
    have : tooLong x = true := by simp [tooLong] at h ⊢; omega
    exact Fin.one hTh rfl (by simp [getT, ofValue, shtErr, this]) rfl
  conv => whnf
  have ht : tooLong x = false := by simp_all [tooLong]; omega
  refine CallTo.fn (m_ref05_names G x hx) ?_
  conv => whnf
  refine LoopOK.weak _ _ ?_ ?_ ?_ (LoopOK.ind (fun i : Nat => (namesL x).length - i) (fun i => [(1, .ref (F_ref05_Check, 1) 0), (3, .lst 1 ((namesL x).map cS)), (4, .int .i64 i)]) (fun _ => [((F_ref05_Check, 1), .cells T_api_Sheet (cSht x))]) (fun i => i ≤ (namesL x).length ∧ ∀ s ∈ (namesL x).take i, (!nameOK s) = false) ?_ 0 ⟨by omega, by simp⟩)
  · exact ⟨rfl, rfl, rfl, trivial⟩
  · exact ⟨rfl, trivial⟩
  · rfl
  intro i ⟨hi, hb⟩ IH
  refine LoopOK.round hTh hMx ?_
  conv => whnf
  refine cond_split (fun h => ?_) (fun hz => ?_)
  · have hlt := lt_of_dec h
    conv => whnf
    refine IndexTo.at (map_at cS hlt) ?_
    conv => whnf
    refine CallTo.fn (m_ref04_Name G _ (hx.strs _ (List.getElem_mem hlt))) ?_
    conv => whnf
    refine cond_split (fun he => ?_) (fun he => ?_)
    · conv => whnf
      have h1 := any_of (p := fun s => !nameOK s) hlt he
      exact Fin.one hTh rfl (by simp [getT, ofValue, shtErr, ht, h1]) rfl
    · conv => whnf
      refine WrapTo.i64 (by omega) ?_
      conv => whnf
      refine LoopOK.weak _ _ ?_ ?_ ?_ (IH (i + 1) (by omega) ⟨by omega, none_succ hb hlt he⟩)
      · exact ⟨rfl, rfl, rfl, trivial⟩
      · exact ⟨rfl, trivial⟩
      · rfl
  have h1 := any_not (none_all hb (le_of_dec hz))
  conv => whnf
  refine CallTo.fn (m_ref05_numbers G x hx) ?_
  conv => whnf
  refine LoopOK.weak _ _ ?_ ?_ ?_ (LoopOK.ind (fun i : Nat => (numbersL x).length - i) (fun i => [(1, .ref (F_ref05_Check, 1) 0), (5, .lst 1 ((numbersL x).map cI)), (6, .int .i64 i)]) (fun _ => [((F_ref05_Check, 1), .cells T_api_Sheet (cSht x))]) (fun i => i ≤ (numbersL x).length ∧ ∀ s ∈ (numbersL x).take i, (!tickOK s) = false) ?_ 0 ⟨by omega, by simp⟩)
  · exact ⟨rfl, rfl, rfl, trivial⟩
  · exact ⟨rfl, trivial⟩
  · rfl
  intro i2 ⟨hi2, hb2⟩ IH2
  refine LoopOK.round hTh hMx ?_
  conv => whnf
  refine cond_split (fun h => ?_) (fun hz2 => ?_)
  · have hlt := lt_of_dec h
    conv => whnf
    refine IndexTo.at (map_at cI hlt) ?_
    conv => whnf
    refine CallTo.fn (m_ref01_Check G _) ?_
    conv => whnf
    refine cond_split (fun he => ?_) (fun he => ?_)
    · conv => whnf
      have he' : (!tickOK (numbersL x)[i2]) = true := by cases hq : tickOK (numbersL x)[i2] <;> simp [hq] at he ⊢
      have h2 := any_of (p := fun s => !tickOK s) hlt he'
      exact Fin.one hTh rfl (by simp [getT, ofValue, shtErr, ht, h1, h2]) rfl
    · conv => whnf
      have he' : (!tickOK (numbersL x)[i2]) = false := by cases hq : tickOK (numbersL x)[i2] <;> simp [hq] at he ⊢
      refine WrapTo.i64 (by omega) ?_
      conv => whnf
      refine LoopOK.weak _ _ ?_ ?_ ?_ (IH2 (i2 + 1) (by omega) ⟨by omega, none_succ hb2 hlt he'⟩)
      · exact ⟨rfl, rfl, rfl, trivial⟩
      · exact ⟨rfl, trivial⟩
      · rfl
  have h2 := any_not (none_all hb2 (le_of_dec hz2))
  conv => whnf
  refine LoopOK.weak _ _ ?_ ?_ ?_ (LoopOK.ind (fun i : Nat => x.routes.length - i) (fun i => [(1, .ref (F_ref05_Check, 1) 0), (7, .int .i64 i)]) (fun _ => [((F_ref05_Check, 1), .cells T_api_Sheet (cSht x))]) (fun i => i ≤ x.routes.length ∧ ∀ s ∈ x.routes.take i, (!rteOK s) = false) ?_ 0 ⟨by omega, by simp⟩)
  · exact ⟨rfl, rfl, trivial⟩
  · exact ⟨rfl, trivial⟩
  · rfl
  intro i3 ⟨hi3, hb3⟩ IH3
  refine LoopOK.round hTh hMx ?_
  conv => whnf
  refine cond_split (fun h => ?_) (fun hz3 => ?_)
  · have hlt := lt_of_dec h
    have hs := (hx.each _ (List.getElem_mem hlt)).stops
    have e1 : ((x.routes[i3]).stops.map cS).length = (x.routes[i3]).stops.length := List.length_map _
    have e2 : ((x.routes[i3]).rides.map cI).length = (x.routes[i3]).rides.length := List.length_map _
    have e3 : ((x.routes[i3]).stays.map cI).length = (x.routes[i3]).stays.length := List.length_map _
    have bad : rteOK x.routes[i3] = false → shtErr x = 2 := fun hq => by
      have h3 := any_of (p := fun s => !rteOK s) hlt (by simp [hq])
      simp [shtErr, ht, h1, h2, h3]
    conv => whnf
    refine IndexTo.at (map_at cRte hlt) ?_
    conv => whnf
    refine cond_split (fun c1 => ?_) (fun c1 => ?_)
    · conv => whnf
      exact Fin.one hTh rfl (by simp [getT, ofValue, bad (by simp [rteOK] at c1 ⊢; omega)]) rfl
    conv => whnf
    refine cond_split (fun c2 => ?_) (fun c2 => ?_)
    · conv => whnf
      exact Fin.one hTh rfl (by simp [getT, ofValue, bad (by simp [rteOK] at c2 ⊢; omega)]) rfl
    conv => whnf
    refine WrapTo.i64 (by omega) ?_
    conv => whnf
    refine cond_split (fun c3 => ?_) (fun c3 => ?_)
    · conv => whnf
      exact Fin.one hTh rfl (by simp [getT, ofValue, bad (by simp [rteOK] at c3 ⊢; omega)]) rfl
    conv => whnf
    refine WrapTo.i64 (by omega) ?_
    conv => whnf
    refine cond_split (fun c4 => ?_) (fun c4 => ?_)
    · conv => whnf
      exact Fin.one hTh rfl (by simp [getT, ofValue, bad (by simp [rteOK] at c4 ⊢; omega)]) rfl
    conv => whnf
    refine WrapTo.i64 (by omega) ?_
    conv => whnf
    have good : (!rteOK x.routes[i3]) = false := by
      simp only [e1, e2, e3] at c1 c2 c3 c4
      have d1 : (2 : Int) ≤ (x.routes[i3]).stops.length := by simpa using c1
      have d2 : ((x.routes[i3]).stops.length : Int) ≤ 32 := by simpa using c2
      have d3 : (((x.routes[i3]).rides.length : Int) == ((x.routes[i3]).stops.length : Int) - 1) = true := by simpa using c3
      have d4 : (((x.routes[i3]).stays.length : Int) == ((x.routes[i3]).stops.length : Int) - 2) = true := by simpa using c4
      have d1' : 2 ≤ (x.routes[i3]).stops.length := by omega
      have d2' : (x.routes[i3]).stops.length ≤ 32 := by omega
      simp only [rteOK, d3, d4, d1', d2', decide_true, Bool.and_true, Bool.not_true]
    refine LoopOK.weak _ _ ?_ ?_ ?_ (IH3 (i3 + 1) (by omega) ⟨by omega, none_succ hb3 hlt good⟩)
    · exact ⟨rfl, rfl, trivial⟩
    · exact ⟨rfl, trivial⟩
    · rfl
  have h3 := any_not (none_all hb3 (le_of_dec hz3))
  conv => whnf
  exact Fin.one hTh rfl (by simp [getT, ofValue, shtErr, ht, h1, h2, h3]) rfl
end Go.Proofs.YtmfolelgdpkkoaaGreatDoor
/- Worlds: numbers in the place of names, by the program. -/
set_option linter.unusedVariables false
set_option linter.unusedSimpArgs false
set_option maxRecDepth 10000
namespace Go.Ab
def placeS (l : List Str) (n : Str) : Int := fidx (fun x => n == x) l
def pthO (x : Sht) (p : Pth) : PthO := ⟨placeS x.stops p.a, placeS x.stops p.b, p.ln⟩
def dorO (x : Sht) (p : Dor) : DorO := ⟨placeS x.stops p.a, placeS x.stops p.b, p.ln, p.tm⟩
def rteO (x : Sht) (r : Rte) : RteO := ⟨r.stops.map (placeS x.stops), r.rides, r.stays⟩
def trpO (x : Sht) (t : Trp) : TrpO := ⟨placeS (x.routes.map Rte.name) t.route, t.fr, t.ev, t.un⟩
def hzdO (x : Sht) (h : Hzd) : HzdO := if 0 ≤ placeS x.stops h.on then ⟨true, placeS x.stops h.on, h.tm⟩ else ⟨false, placeS (x.paths.map Pth.name) h.on, h.tm⟩
def nmsOf (x : Sht) : Nms := ⟨x.stops, x.paths.map Pth.name, x.doors.map Dor.name, x.routes.map Rte.name, x.trips.map Trp.name, x.hazards.map Hzd.name⟩
def numW (x : Sht) : Wld := ⟨x.hor, nmsOf x, x.paths.map (pthO x), x.doors.map (dorO x), x.routes.map (rteO x), x.trips.map (trpO x), x.hazards.map (hzdO x)⟩
end Go.Ab
namespace Go.Proofs.YtmfolelgdpkkoaaGreatDoor
open Go Go.Ab
theorem mf_world_all_api_Trip_api_TripOf (G : GlP) (fp : BL) (hcl : AllL (keyB fp) fp) (h6 : getL fp (F_world_all_api_Trip_api_TripOf, 6) = none) (h18 : getL fp (F_world_all_api_Trip_api_TripOf, 18) = none) (hnd : ndB fp = true) (xs : List Trp) (fv : AV) (g : Trp → TrpO)
    (hf : ∀ x, x ∈ xs → MeetsV Pg G fv [.agg (cTrp x)] fp (.agg (cTrpO (g x))) []) (hfv : cloB (keyB fp) fv = true) (hl : xs.length ≤ 4294967296) :
    Meets Pg G F_world_all_api_Trip_api_TripOf [.lst 5 (xs.map cTrp), fv] fp (.lst 4 ((xs.map g).map cTrpO)) [] := by
  rw [List.map_map]
  have hck : ∀ (i : Nat) (n : Int), cloChk fp [(0, .lst 5 (xs.map cTrp)), (1, fv), (7, .lst 5 (xs.map cTrp)), (8, .int .i64 (xs.map cTrp).length), (9, .int .i64 n), (4, .own (F_world_all_api_Trip_api_TripOf, 18) i)] (((F_world_all_api_Trip_api_TripOf, 18), .row T_api_TripOf 4 ((xs.take i).map fun x => cTrpO (g x))) :: fp) = true := fun i n =>
    chk_mk ⟨rfl, cloB_mono key_cons _ hfv, rfl, rfl, rfl, by simp [cloB, keyB, getL, lbeq_iff.2 rfl], trivial⟩ ⟨cloX_row (l := (0, 0)) (e := 0) (sz := 0) (Clo.map (fun x => fTrpO (g x)) _), hcl.mono key_cons⟩ keys_cons
  refine meets_box (F := fe_world_all_api_Trip_api_TripOf) hTh hMx func_world_all_api_Trip_api_TripOf rfl call_world_all_api_Trip_api_TripOf rfl (by simp [cloL, cloB, hfv]) hcl rfl trivial hcl ?_
  conv => whnf
  refine LoopOK.conv (Conv.empOwn 4 rfl (F_world_all_api_Trip_api_TripOf, 18) h18 T_api_TripOf 4) (LoopOK.weak _ _ ?_ ?_ ?_ (LoopOK.ind (fun i : Nat => xs.length - i)
    (fun i => [(0, .lst 5 (xs.map cTrp)), (1, fv), (7, .lst 5 (xs.map cTrp)), (8, .int .i64 (xs.map cTrp).length), (9, .int .i64 i), (4, .own (F_world_all_api_Trip_api_TripOf, 18) i)]) (fun i => ((F_world_all_api_Trip_api_TripOf, 18), .row T_api_TripOf 4 ((xs.take i).map fun x => cTrpO (g x))) :: fp) (fun i => i ≤ xs.length) ?_ 0 (by omega)))
  · exact ⟨rfl, rfl, rfl, rfl, rfl, rfl, trivial⟩
  · exact ⟨rfl, sub_tail (pre := [_]) ⟨h18, trivial⟩ hnd⟩
  · exact hck 0 0
  intro i hi IH
  refine LoopOK.round hTh hMx ?_
  conv => whnf
  refine cond_split (fun h => ?_) (fun h => ?_)
  · have hlt := lt_of_dec h
    conv => whnf
    refine IndexTo.at (map_at cTrp hlt) ?_
    conv => whnf
    split
    rotate_left
    · rename_i v hv
      have : some v = none := hv.symm.trans h6
      cases this
    conv => whnf
    refine CallTo.sees (hf _ (List.getElem_mem hlt)) (sub_tail (pre := [_, _, _]) ⟨h6, h6, h18, trivial⟩ hnd) ?_
    conv => whnf
    refine ⟨by simp; omega, by simp; omega, ?_⟩
    conv => whnf
    refine WrapTo.i64 (by omega) ?_
    conv => whnf
    refine LoopOK.weak _ _ ?_ ?_ ?_ (IH (i + 1) (by omega) (by omega))
    · exact ⟨rfl, rfl, rfl, rfl, rfl, rfl, trivial⟩
    · exact ⟨congrArg (fun z => some (ABox.row T_api_TripOf 4 z)) (map_succ (f := fun x => cTrpO (g x)) hlt), sub_tail (pre := [_, _, _, _]) ⟨h18, h6, h6, h18, trivial⟩ hnd⟩
    · exact hck (i + 1) _
  · have hge := le_of_dec h
    conv => whnf
    rw [show xs.map (cTrpO ∘ g) = (xs.take i).map (fun x => cTrpO (g x)) from (map_all (f := fun x => cTrpO (g x)) hge).symm]
    refine Fin.less [((F_world_all_api_Trip_api_TripOf, 18), .row T_api_TripOf 4 ((xs.take i).map fun x => cTrpO (g x)))] [(4, .lst 4 ((xs.take i).map fun x => cTrpO (g x)))] fp ⟨.own List.mem_cons_self (by simp; omega), trivial⟩ (subX_of (sub_tail (pre := [_]) ⟨h18, trivial⟩ hnd)) ⟨rfl, Clo.map (fun x => fTrpO (g x)) _, by unfold keyB; rw [show getL fp (F_world_all_api_Trip_api_TripOf, 18) = none from h18]; rfl, trivial⟩ (chk_mk ⟨rfl, trivial⟩ hcl keys_self) ?_
    exact Fin.done hTh [_] rfl rfl (fun l o h => h) rfl (fun l o h => by have := hcl.spec; rw [List.all_eq_true] at this; exact this _ (getL_mem h))
theorem mf_world_all_api_Hazard_api_HazardOf (G : GlP) (fp : BL) (hcl : AllL (keyB fp) fp) (h6 : getL fp (F_world_all_api_Hazard_api_HazardOf, 6) = none) (h18 : getL fp (F_world_all_api_Hazard_api_HazardOf, 18) = none) (hnd : ndB fp = true) (xs : List Hzd) (fv : AV) (g : Hzd → HzdO)
    (hf : ∀ x, x ∈ xs → MeetsV Pg G fv [.agg (cHzd x)] fp (.agg (cHzdO (g x))) []) (hfv : cloB (keyB fp) fv = true) (hl : xs.length ≤ 4294967296) :
    Meets Pg G F_world_all_api_Hazard_api_HazardOf [.lst 5 (xs.map cHzd), fv] fp (.lst 5 ((xs.map g).map cHzdO)) [] := by
  rw [List.map_map]
  have hck : ∀ (i : Nat) (n : Int), cloChk fp [(0, .lst 5 (xs.map cHzd)), (1, fv), (7, .lst 5 (xs.map cHzd)), (8, .int .i64 (xs.map cHzd).length), (9, .int .i64 n), (4, .own (F_world_all_api_Hazard_api_HazardOf, 18) i)] (((F_world_all_api_Hazard_api_HazardOf, 18), .row T_api_HazardOf 5 ((xs.take i).map fun x => cHzdO (g x))) :: fp) = true := fun i n =>
    chk_mk ⟨rfl, cloB_mono key_cons _ hfv, rfl, rfl, rfl, by simp [cloB, keyB, getL, lbeq_iff.2 rfl], trivial⟩ ⟨cloX_row (l := (0, 0)) (e := 0) (sz := 0) (Clo.map (fun x => fHzdO (g x)) _), hcl.mono key_cons⟩ keys_cons
  refine meets_box (F := fe_world_all_api_Hazard_api_HazardOf) hTh hMx func_world_all_api_Hazard_api_HazardOf rfl call_world_all_api_Hazard_api_HazardOf rfl (by simp [cloL, cloB, hfv]) hcl rfl trivial hcl ?_
  conv => whnf
  refine LoopOK.conv (Conv.empOwn 4 rfl (F_world_all_api_Hazard_api_HazardOf, 18) h18 T_api_HazardOf 5) (LoopOK.weak _ _ ?_ ?_ ?_ (LoopOK.ind (fun i : Nat => xs.length - i)
    (fun i => [(0, .lst 5 (xs.map cHzd)), (1, fv), (7, .lst 5 (xs.map cHzd)), (8, .int .i64 (xs.map cHzd).length), (9, .int .i64 i), (4, .own (F_world_all_api_Hazard_api_HazardOf, 18) i)]) (fun i => ((F_world_all_api_Hazard_api_HazardOf, 18), .row T_api_HazardOf 5 ((xs.take i).map fun x => cHzdO (g x))) :: fp) (fun i => i ≤ xs.length) ?_ 0 (by omega)))
  · exact ⟨rfl, rfl, rfl, rfl, rfl, rfl, trivial⟩
  · exact ⟨rfl, sub_tail (pre := [_]) ⟨h18, trivial⟩ hnd⟩
  · exact hck 0 0
  intro i hi IH
  refine LoopOK.round hTh hMx ?_
  conv => whnf
  refine cond_split (fun h => ?_) (fun h => ?_)
  · have hlt := lt_of_dec h
    conv => whnf
    refine IndexTo.at (map_at cHzd hlt) ?_
    conv => whnf
    split
    rotate_left
    · rename_i v hv
      have : some v = none := hv.symm.trans h6
      cases this
    conv => whnf
    refine CallTo.sees (hf _ (List.getElem_mem hlt)) (sub_tail (pre := [_, _, _]) ⟨h6, h6, h18, trivial⟩ hnd) ?_
    conv => whnf
    refine ⟨by simp; omega, by simp; omega, ?_⟩
    conv => whnf
    refine WrapTo.i64 (by omega) ?_
    conv => whnf
    refine LoopOK.weak _ _ ?_ ?_ ?_ (IH (i + 1) (by omega) (by omega))
    · exact ⟨rfl, rfl, rfl, rfl, rfl, rfl, trivial⟩
    · exact ⟨congrArg (fun z => some (ABox.row T_api_HazardOf 5 z)) (map_succ (f := fun x => cHzdO (g x)) hlt), sub_tail (pre := [_, _, _, _]) ⟨h18, h6, h6, h18, trivial⟩ hnd⟩
    · exact hck (i + 1) _
  · have hge := le_of_dec h
    conv => whnf
    rw [show xs.map (cHzdO ∘ g) = (xs.take i).map (fun x => cHzdO (g x)) from (map_all (f := fun x => cHzdO (g x)) hge).symm]
    refine Fin.less [((F_world_all_api_Hazard_api_HazardOf, 18), .row T_api_HazardOf 5 ((xs.take i).map fun x => cHzdO (g x)))] [(4, .lst 5 ((xs.take i).map fun x => cHzdO (g x)))] fp ⟨.own List.mem_cons_self (by simp; omega), trivial⟩ (subX_of (sub_tail (pre := [_]) ⟨h18, trivial⟩ hnd)) ⟨rfl, Clo.map (fun x => fHzdO (g x)) _, by unfold keyB; rw [show getL fp (F_world_all_api_Hazard_api_HazardOf, 18) = none from h18]; rfl, trivial⟩ (chk_mk ⟨rfl, trivial⟩ hcl keys_self) ?_
    exact Fin.done hTh [_] rfl rfl (fun l o h => h) rfl (fun l o h => by have := hcl.spec; rw [List.all_eq_true] at this; exact this _ (getL_mem h))
theorem m_numbered_1 (G : GlP) (p : Pth) : Meets Pg G F_world_numbered_1 [.agg (cPth p)] [] (.str p.name) [] := by
  refine meets_pure (F := fe_world_numbered_1) hTh hMx func_world_numbered_1 rfl call_world_numbered_1 rfl rfl rfl ?_
  conv => whnf
  exact Fin.one hTh rfl (rfl) rfl
theorem m_numbered_2 (G : GlP) (p : Dor) : Meets Pg G F_world_numbered_2 [.agg (cDor p)] [] (.str p.name) [] := by
  refine meets_pure (F := fe_world_numbered_2) hTh hMx func_world_numbered_2 rfl call_world_numbered_2 rfl rfl rfl ?_
  conv => whnf
  exact Fin.one hTh rfl (rfl) rfl
theorem m_numbered_3 (G : GlP) (p : Rte) : Meets Pg G F_world_numbered_3 [.agg (cRte p)] [] (.str p.name) [] := by
  refine meets_pure (F := fe_world_numbered_3) hTh hMx func_world_numbered_3 rfl call_world_numbered_3 rfl rfl rfl ?_
  conv => whnf
  exact Fin.one hTh rfl (rfl) rfl
theorem m_numbered_4 (G : GlP) (p : Trp) : Meets Pg G F_world_numbered_4 [.agg (cTrp p)] [] (.str p.name) [] := by
  refine meets_pure (F := fe_world_numbered_4) hTh hMx func_world_numbered_4 rfl call_world_numbered_4 rfl rfl rfl ?_
  conv => whnf
  exact Fin.one hTh rfl (rfl) rfl
theorem m_numbered_5 (G : GlP) (p : Hzd) : Meets Pg G F_world_numbered_5 [.agg (cHzd p)] [] (.str p.name) [] := by
  refine meets_pure (F := fe_world_numbered_5) hTh hMx func_world_numbered_5 rfl call_world_numbered_5 rfl rfl rfl ?_
  conv => whnf
  exact Fin.one hTh rfl (rfl) rfl
theorem m_world_place (G : GlP) (l : List Str) (n : Str) (hl : l.length ≤ 4294967296) : Meets Pg G F_world_place [.lst 1 (l.map cS), .str n] [] (.int .i64 (placeS l n)) [] := by
  refine meets_pure (F := fe_world_place) hTh hMx func_world_place rfl call_world_place rfl rfl rfl ?_
  conv => whnf
  refine CallTo.fn (m_slices_Index_string_string G l n hl) ?_
  conv => whnf
  exact Fin.one hTh rfl (rfl) rfl
theorem m_numbered_6 (G : GlP) (x : Sht) (hl : x.stops.length ≤ 4294967296) (n : Str) : Meets Pg G F_world_numbered_6 [.str n, .pp (cSht x)] [] (.int .i64 (placeS x.stops n)) [] := by
  refine meets_pure (F := fe_world_numbered_6) hTh hMx func_world_numbered_6 rfl call_world_numbered_6 rfl rfl rfl ?_
  conv => whnf
  refine CallTo.fn (m_world_place G x.stops n hl) ?_
  conv => whnf
  exact Fin.one hTh rfl (rfl) rfl
/-- The function that tells where a stop's name stands. -/
abbrev fStop (x : Sht) : AV := .fn (.func F_world_numbered_6) [] [.pp (cSht x)]
theorem v_stop (G : GlP) (x : Sht) (hl : x.stops.length ≤ 4294967296) (n : Str) : MeetsV Pg G (fStop x) [.str n] [] (.int .i64 (placeS x.stops n)) [] := MeetsV.of (m_numbered_6 G x hl n)
theorem m_numbered_7 (G : GlP) (x : Sht) (hl : x.stops.length ≤ 4294967296) (p : Pth) : Meets Pg G F_world_numbered_7 [.agg (cPth p), .pp [fStop x]] [] (.agg (cPthO (pthO x p))) [] := by
  refine meets_pure (F := fe_world_numbered_7) hTh hMx func_world_numbered_7 rfl call_world_numbered_7 rfl rfl rfl ?_
  conv => whnf
  refine CallTo.pure (v_stop G x hl _) ?_
  conv => whnf
  refine CallTo.pure (v_stop G x hl _) ?_
  conv => whnf
  refine ⟨by kernel_rfl, ?_⟩
  conv => whnf
  exact Fin.pure hTh _ rfl rfl rfl
theorem m_numbered_8 (G : GlP) (x : Sht) (hl : x.stops.length ≤ 4294967296) (p : Dor) : Meets Pg G F_world_numbered_8 [.agg (cDor p), .pp [fStop x]] [] (.agg (cDorO (dorO x p))) [] := by
  refine meets_pure (F := fe_world_numbered_8) hTh hMx func_world_numbered_8 rfl call_world_numbered_8 rfl rfl rfl ?_
  conv => whnf
  refine CallTo.pure (v_stop G x hl _) ?_
  conv => whnf
  refine CallTo.pure (v_stop G x hl _) ?_
  conv => whnf
  refine ⟨by kernel_rfl, ?_⟩
  conv => whnf
  exact Fin.pure hTh _ rfl rfl rfl
theorem m_numbered_9 (G : GlP) (x : Sht) (hl : x.stops.length ≤ 4294967296) (r : Rte) (hr : RteFits r) : Meets Pg G F_world_numbered_9 [.agg (cRte r), .pp [fStop x]] [] (.agg (cRteO (rteO x r))) [] := by
  have h1 := hr.stops
  have h2 := hr.rides
  have h3 := hr.stays
  refine meets_pure (F := fe_world_numbered_9) hTh hMx func_world_numbered_9 rfl call_world_numbered_9 rfl rfl rfl ?_
  conv => whnf
  refine CallTo.fn (m_world_all_string_int G r.stops _ (placeS x.stops) (fun n _ => v_stop G x hl n) rfl (by omega)) ?_
  conv => whnf
  refine CallTo.fn (m_slices_Clone_int64_int64 G r.rides (by omega)) ?_
  conv => whnf
  refine CallTo.fn (m_slices_Clone_int64_int64 G r.stays (by omega)) ?_
  conv => whnf
  refine ⟨by kernel_rfl, ?_⟩
  conv => whnf
  exact Fin.pure hTh _ rfl rfl rfl
/-- What the last two functions read: the names' pointer, and the world that is made. -/
abbrev fpN (W : List AV) : BL := [((F_world_numbered, 4), .cells T_P_api_Names [.ref (F_world_numbered, 3) 1]), ((F_world_numbered, 3), .cells T_api_World W)]
abbrev wldT (x : Sht) : List AV := [.lst 1 (x.stops.map cS), .lst 1 ((x.paths.map Pth.name).map cS), .lst 1 ((x.doors.map Dor.name).map cS), .lst 1 ((x.routes.map Rte.name).map cS), .lst 1 ((x.trips.map Trp.name).map cS), .lst 1 ((x.hazards.map Hzd.name).map cS)]
theorem m_numbered_10 (G : GlP) (x : Sht) (a b c d e : AV) (hcl : AllL (keyB (fpN (.int .i64 x.hor :: wldT x ++ [a, b, c, d, e]))) (fpN (.int .i64 x.hor :: wldT x ++ [a, b, c, d, e]))) (hl : x.routes.length ≤ 65536) (t : Trp) :
    Meets Pg G F_world_numbered_10 [.agg (cTrp t), .ref (F_world_numbered, 4) 0] (fpN (.int .i64 x.hor :: wldT x ++ [a, b, c, d, e])) (.agg (cTrpO (trpO x t))) [] := by
  refine meets_box (F := fe_world_numbered_10) hTh hMx func_world_numbered_10 rfl call_world_numbered_10 rfl rfl hcl rfl trivial hcl ?_
  conv => whnf
  refine CallTo.fn (m_world_place G (x.routes.map Rte.name) t.route (by simp; omega)) ?_
  conv => whnf
  refine ⟨by kernel_rfl, ?_⟩
  conv => whnf
  exact Fin.sees hTh [_] rfl rfl ⟨rfl, rfl, trivial⟩ rfl hcl
theorem m_numbered_11 (G : GlP) (x : Sht) (a b c d e : AV) (hcl : AllL (keyB (fpN (.int .i64 x.hor :: wldT x ++ [a, b, c, d, e]))) (fpN (.int .i64 x.hor :: wldT x ++ [a, b, c, d, e]))) (hl : x.stops.length ≤ 4294967296) (hl2 : x.paths.length ≤ 65536) (h : Hzd) :
    Meets Pg G F_world_numbered_11 [.agg (cHzd h), .pp [fStop x], .ref (F_world_numbered, 4) 0] (fpN (.int .i64 x.hor :: wldT x ++ [a, b, c, d, e])) (.agg (cHzdO (hzdO x h))) [] := by
  refine meets_sees (F := fe_world_numbered_11) hTh hMx func_world_numbered_11 rfl call_world_numbered_11 rfl rfl hcl rfl ?_
  conv => whnf
  refine CallTo.pure (v_stop G x hl _) ?_
  conv => whnf
  refine cond_split (fun hc => ?_) (fun hc => ?_)
  · have hc' : 0 ≤ placeS x.stops h.on := by simpa using hc
    have e1 : hzdO x h = ⟨true, placeS x.stops h.on, h.tm⟩ := by simp [hzdO, hc']
    rw [e1]
    conv => whnf
    exact Fin.sees hTh [_] rfl rfl ⟨rfl, rfl, trivial⟩ rfl hcl
  · have hc' : ¬ 0 ≤ placeS x.stops h.on := by simpa using hc
    have e1 : hzdO x h = ⟨false, placeS (x.paths.map Pth.name) h.on, h.tm⟩ := by simp [hzdO, hc']
    rw [e1]
    conv => whnf
    refine CallTo.fn (m_world_place G (x.paths.map Pth.name) h.on (by simp; omega)) ?_
    conv => whnf
    refine ⟨by kernel_rfl, ?_⟩
    conv => whnf
    exact Fin.sees hTh [_] rfl rfl ⟨rfl, rfl, trivial⟩ rfl hcl
theorem m_numbered (G : GlP) (x : Sht) (hx : ShtFits x) : Meets Pg G F_world_numbered [.agg (cSht x)] [] (.agg (cWld (numW x))) [] := by
  have b0 := hx.stops
  have b1 := hx.paths
  have b2 := hx.doors
  have b3 := hx.routes
  have b4 := hx.trips
  have b5 := hx.hazards
  refine meets_pure (F := { fe_world_numbered with stops := [9, 10] }) hTh hMx func_world_numbered rfl call_world_numbered rfl rfl rfl ?_
  conv => whnf
  refine CallTo.fn (m_slices_Clone_string_string G x.stops (by omega)) ?_
  conv => whnf
  refine ⟨by kernel_rfl, ?_⟩
  conv => whnf
  refine CallTo.fn (m_world_all_api_Path_string G x.paths _ Pth.name (fun p _ => MeetsV.of (m_numbered_1 G p)) rfl (by omega)) ?_
  conv => whnf
  refine ⟨by kernel_rfl, ?_⟩
  conv => whnf
  refine CallTo.fn (m_world_all_api_Door_string G x.doors _ Dor.name (fun p _ => MeetsV.of (m_numbered_2 G p)) rfl (by omega)) ?_
  conv => whnf
  refine ⟨by kernel_rfl, ?_⟩
  conv => whnf
  refine CallTo.fn (m_world_all_api_Route_string G x.routes _ Rte.name (fun p _ => MeetsV.of (m_numbered_3 G p)) rfl (by omega)) ?_
  conv => whnf
  refine ⟨by kernel_rfl, ?_⟩
  conv => whnf
  refine CallTo.fn (m_world_all_api_Trip_string G x.trips _ Trp.name (fun p _ => MeetsV.of (m_numbered_4 G p)) rfl (by omega)) ?_
  conv => whnf
  refine ⟨by kernel_rfl, ?_⟩
  conv => whnf
  refine CallTo.fn (m_world_all_api_Hazard_string G x.hazards _ Hzd.name (fun p _ => MeetsV.of (m_numbered_5 G p)) rfl (by omega)) ?_
  conv => whnf
  refine ⟨by kernel_rfl, ?_⟩
  conv => whnf
  refine CodeTo.less [((F_world_numbered, 1), .cells T_api_Sheet (cSht x))] [(1, .pp (cSht x)), (3, .ref (F_world_numbered, 3) 0), (4, .ref (F_world_numbered, 4) 0), (2, .ref (F_world_numbered, 2) 0)]
    [((F_world_numbered, 2), .cells T_api_World (zcells ty_api_World)), ((F_world_numbered, 3), .cells T_api_World (.int .i64 x.hor :: wldT x ++ [.emp, .emp, .emp, .emp, .emp])), ((F_world_numbered, 4), .cells T_P_api_Names [.ref (F_world_numbered, 3) 1])]
    ⟨.ref List.mem_cons_self, .refl _, .refl _, .refl _, trivial⟩ ⟨⟨_, rfl, .refl _⟩, ⟨_, rfl, .refl _⟩, ⟨_, rfl, .refl _⟩, trivial⟩ ⟨rfl, rfl, rfl, trivial⟩ rfl ?_
  refine CodeTo.go hTh hMx ?_
  conv => whnf
  refine CodeTo.less [((F_world_numbered, 5), .cells _ [fStop x])] [(1, .pp (cSht x)), (3, .ref (F_world_numbered, 3) 0), (4, .ref (F_world_numbered, 4) 0), (2, .ref (F_world_numbered, 2) 0), (5, .pp [fStop x])]
    [((F_world_numbered, 2), .cells T_api_World (zcells ty_api_World)), ((F_world_numbered, 3), .cells T_api_World (.int .i64 x.hor :: wldT x ++ [.emp, .emp, .emp, .emp, .emp])), ((F_world_numbered, 4), .cells T_P_api_Names [.ref (F_world_numbered, 3) 1])]
    ⟨.refl _, .refl _, .refl _, .refl _, .ref List.mem_cons_self, trivial⟩ ⟨⟨_, rfl, .refl _⟩, ⟨_, rfl, .refl _⟩, ⟨_, rfl, .refl _⟩, trivial⟩ ⟨rfl, rfl, rfl, trivial⟩ rfl ?_
  refine CodeTo.go hTh hMx ?_
  conv => whnf
  refine CallTo.fn (m_world_all_api_Path_api_PathOf G x.paths _ (pthO x) (fun p _ => MeetsV.of (m_numbered_7 G x (by omega) p)) rfl (by omega)) ?_
  conv => whnf
  refine CallTo.fn (m_world_all_api_Door_api_DoorOf G x.doors _ (dorO x) (fun p _ => MeetsV.of (m_numbered_8 G x (by omega) p)) rfl (by omega)) ?_
  conv => whnf
  refine CallTo.fn (m_world_all_api_Route_api_RouteOf G x.routes _ (rteO x) (fun p hp => MeetsV.of (m_numbered_9 G x (by omega) p (hx.each p hp))) rfl (by omega)) ?_
  conv => whnf
  refine CallTo.fnSees (mf_world_all_api_Trip_api_TripOf G (fpN (.int .i64 x.hor :: wldT x ++ [.lst 3 ((x.paths.map (pthO x)).map cPthO), .lst 6 ((x.doors.map (dorO x)).map cDorO), .lst 3 ((x.routes.map (rteO x)).map cRteO), .emp, .emp])) ⟨rfl, rfl, trivial⟩ rfl rfl rfl x.trips _ (trpO x) (fun t _ => MeetsV.of (m_numbered_10 G x _ _ _ _ _ ⟨rfl, rfl, trivial⟩ (by omega) t)) rfl (by omega)) ⟨rfl, rfl, trivial⟩ ?_
  conv => whnf
  refine CallTo.fnSees (mf_world_all_api_Hazard_api_HazardOf G (fpN (.int .i64 x.hor :: wldT x ++ [.lst 3 ((x.paths.map (pthO x)).map cPthO), .lst 6 ((x.doors.map (dorO x)).map cDorO), .lst 3 ((x.routes.map (rteO x)).map cRteO), .lst 4 ((x.trips.map (trpO x)).map cTrpO), .emp])) ⟨rfl, rfl, trivial⟩ rfl rfl rfl x.hazards _ (hzdO x) (fun t _ => MeetsV.of (m_numbered_11 G x _ _ _ _ _ ⟨rfl, rfl, trivial⟩ (by omega) (by omega) t)) rfl (by omega)) ⟨rfl, rfl, trivial⟩ ?_
  conv => whnf
  exact Fin.pure hTh [_] rfl rfl rfl
end Go.Proofs.YtmfolelgdpkkoaaGreatDoor
/- Worlds: numbers in the place of names, by the document. -/
set_option linter.unusedVariables false
set_option linter.unusedSimpArgs false
set_option maxRecDepth 10000
namespace Go.Proofs.YtmfolelgdpkkoaaGreatDoor
open Go Go.Ab
theorem m_ref09_place (G : GlP) (l : List Str) (n : Str) (hl : l.length ≤ 4294967296) : Meets Pg G F_ref09_place [.lst 1 (l.map cS), .str n] [] (.int .i64 (placeS l n)) [] := by
  refine meets_pure (F := fe_ref09_place) hTh hMx func_ref09_place rfl call_ref09_place rfl rfl rfl ?_
  conv => whnf
  refine LoopOK.weak _ _ ?_ ?_ ?_ (LoopOK.ind (fun i : Nat => l.length - i) (fun i => [(0, .lst 1 (l.map cS)), (1, .str n), (5, .int .i64 i)]) (fun _ => []) (fun i => i ≤ l.length ∧ ∀ x ∈ l.take i, (n == x) = false) ?_ 0 ⟨by omega, by simp⟩)
  · exact ⟨rfl, rfl, rfl, trivial⟩
  · trivial
  · rfl
  intro i ⟨hi, hb⟩ IH
  refine LoopOK.round hTh hMx ?_
  conv => whnf
  refine cond_split (fun h => ?_) (fun h => ?_)
  · have hlt := lt_of_dec h
    conv => whnf
    refine IndexTo.at (map_at cS hlt) ?_
    conv => whnf
    refine cond_split (fun he => ?_) (fun he => ?_)
    · have he' : (n == l[i]) = true := by rw [Bool.beq_comm] at he; exact he
      conv => whnf
      exact Fin.one hTh rfl (congrArg (AV.int .i64) (fidx_hit (p := fun x => n == x) hlt he' hb).symm) rfl
    · have he' : (n == l[i]) = false := by rw [Bool.beq_comm] at he; exact he
      conv => whnf
      refine WrapTo.i64 (by omega) ?_
      conv => whnf
      refine LoopOK.weak _ _ ?_ ?_ ?_ (IH (i + 1) (by omega) ⟨by omega, none_succ hb hlt he'⟩)
      · exact ⟨rfl, rfl, rfl, trivial⟩
      · trivial
      · rfl
  · have hge := le_of_dec h
    conv => whnf
    exact Fin.one hTh rfl (congrArg (AV.int .i64) (fidx_miss (p := fun x => n == x) (none_all hb hge)).symm) rfl
theorem m_ref09_named (G : GlP) (x : Sht) (hx : ShtFits x) : Meets Pg G F_ref09_named [.agg (cSht x)] [] (.agg (cNms (nmsOf x))) [] := by
  have b0 := hx.stops
  have b1 := hx.paths
  have b2 := hx.doors
  have b3 := hx.routes
  have b4 := hx.trips
  have b5 := hx.hazards
  refine meets_pure (F := { fe_ref09_named with stops := [22] }) hTh hMx func_ref09_named rfl call_ref09_named rfl rfl rfl ?_
  conv => whnf
  refine ⟨by simp only [List.length_map]; omega, ?_⟩
  conv => whnf
  refine LoopOK.less [((F_ref09_named, 12), .row T_string 1 (x.stops.map cS))] [(1, .ref (F_ref09_named, 1) 0), (2, .ref (F_ref09_named, 2) 0), (3, .ref (F_ref09_named, 3) 0), (4, .int .i64 0)]
    [((F_ref09_named, 1), .cells T_api_Sheet (cSht x)), ((F_ref09_named, 2), .cells T_api_Names (zcells ty_api_Names)), ((F_ref09_named, 3), .cells T_api_Names [.lst 1 (x.stops.map cS), .emp, .emp, .emp, .emp, .emp])]
    ⟨.refl _, .refl _, .refl _, .refl _, trivial⟩ ⟨⟨_, rfl, .refl _⟩, ⟨_, rfl, .refl _⟩, ⟨_, rfl, .cells (.cons (.own List.mem_cons_self rfl) (.refl _))⟩, trivial⟩ ⟨rfl, Clo.map fS _, rfl, trivial⟩ rfl ?_
  refine LoopOK.conv (Conv.empOwnBox (F_ref09_named, 3) 1 rfl rfl (F_ref09_named, 30) rfl T_string 1) ?_
  refine LoopOK.weak _ _ ?_ ?_ ?_ (LoopOK.ind (fun i : Nat => x.paths.length - i) (fun i => [(1, .ref (F_ref09_named, 1) 0), (2, .ref (F_ref09_named, 2) 0), (3, .ref (F_ref09_named, 3) 0), (4, .int .i64 i)]) (fun i => [((F_ref09_named, 1), .cells T_api_Sheet (cSht x)), ((F_ref09_named, 2), .cells T_api_Names (zcells ty_api_Names)), ((F_ref09_named, 3), .cells T_api_Names [(.lst 1 (x.stops.map cS)), (.own (F_ref09_named, 30) i), .emp, .emp, .emp, .emp]), ((F_ref09_named, 30), .row T_string 1 (((x.paths.take i).map Pth.name).map cS))]) (fun i => i ≤ x.paths.length) ?_ 0 (by omega))
  · exact ⟨rfl, rfl, rfl, rfl, trivial⟩
  · exact ⟨rfl, rfl, rfl, rfl, trivial⟩
  · exact chk_mk ⟨rfl, rfl, rfl, rfl, trivial⟩ ⟨rfl, rfl, rfl, cloX_row (l := (0, 0)) (e := 0) (sz := 0) (by rw [List.map_map]; exact Clo.map (fun y_ => fS (Pth.name y_)) _), trivial⟩ rfl
  intro i1 hi1 IH
  refine LoopOK.round hTh hMx ?_
  conv => whnf
  refine cond_split (fun h => ?_) (fun hz1 => ?_)
  · have hlt := lt_of_dec h
    conv => whnf
    refine IndexTo.at (map_at cPth hlt) ?_
    conv => whnf
    refine ⟨by simp only [List.length_map, List.length_take]; omega, by simp only [List.length_cons, List.length_nil]; omega, ?_⟩
    conv => whnf
    refine ⟨by kernel_rfl, ?_⟩
    conv => whnf
    refine WrapTo.i64 (by omega) ?_
    conv => whnf
    refine LoopOK.weak _ _ ?_ ?_ ?_ (IH (i1 + 1) (by omega) (by omega))
    · exact ⟨rfl, rfl, rfl, rfl, trivial⟩
    · exact ⟨rfl, rfl, rfl, congrArg (fun z => some (ABox.row T_string 1 z)) (map_succ2 hlt), trivial⟩
    · exact chk_mk ⟨rfl, rfl, rfl, rfl, trivial⟩ ⟨rfl, rfl, rfl, cloX_row (l := (0, 0)) (e := 0) (sz := 0) (by rw [List.map_map]; exact Clo.map (fun y_ => fS (Pth.name y_)) _), trivial⟩ rfl
  have hge1 := le_of_dec hz1
  conv => whnf
  rw [List.take_of_length_le hge1]
  refine LoopOK.less [((F_ref09_named, 30), .row T_string 1 ((x.paths.map Pth.name).map cS))] [(1, .ref (F_ref09_named, 1) 0), (2, .ref (F_ref09_named, 2) 0), (3, .ref (F_ref09_named, 3) 0), (5, .int .i64 0)] [((F_ref09_named, 1), .cells T_api_Sheet (cSht x)), ((F_ref09_named, 2), .cells T_api_Names (zcells ty_api_Names)), ((F_ref09_named, 3), .cells T_api_Names [(.lst 1 (x.stops.map cS)), (.lst 1 ((x.paths.map Pth.name).map cS)), .emp, .emp, .emp, .emp])] ⟨.refl _, .refl _, .refl _, .refl _, trivial⟩ ⟨⟨_, rfl, .refl _⟩, ⟨_, rfl, .refl _⟩, ⟨_, rfl, .cells (.cons (.refl _) (.cons (.own List.mem_cons_self (by simp only [List.length_map]; omega)) (.refl _)))⟩, trivial⟩ ⟨rfl, (by rw [List.map_map]; exact Clo.map (fun y_ => fS (Pth.name y_)) _), rfl, trivial⟩ (rfl) ?_
  refine LoopOK.conv (Conv.empOwnBox (F_ref09_named, 3) 2 rfl rfl (F_ref09_named, 48) rfl T_string 1) ?_
  refine LoopOK.weak _ _ ?_ ?_ ?_ (LoopOK.ind (fun i : Nat => x.doors.length - i) (fun i => [(1, .ref (F_ref09_named, 1) 0), (2, .ref (F_ref09_named, 2) 0), (3, .ref (F_ref09_named, 3) 0), (5, .int .i64 i)]) (fun i => [((F_ref09_named, 1), .cells T_api_Sheet (cSht x)), ((F_ref09_named, 2), .cells T_api_Names (zcells ty_api_Names)), ((F_ref09_named, 3), .cells T_api_Names [(.lst 1 (x.stops.map cS)), (.lst 1 ((x.paths.map Pth.name).map cS)), (.own (F_ref09_named, 48) i), .emp, .emp, .emp]), ((F_ref09_named, 48), .row T_string 1 (((x.doors.take i).map Dor.name).map cS))]) (fun i => i ≤ x.doors.length) ?_ 0 (by omega))
  · exact ⟨rfl, rfl, rfl, rfl, trivial⟩
  · exact ⟨rfl, rfl, rfl, rfl, trivial⟩
  · exact chk_mk ⟨rfl, rfl, rfl, rfl, trivial⟩ ⟨rfl, rfl, rfl, cloX_row (l := (0, 0)) (e := 0) (sz := 0) (by rw [List.map_map]; exact Clo.map (fun y_ => fS (Dor.name y_)) _), trivial⟩ rfl
  intro i2 hi2 IH
  refine LoopOK.round hTh hMx ?_
  conv => whnf
  refine cond_split (fun h => ?_) (fun hz2 => ?_)
  · have hlt := lt_of_dec h
    conv => whnf
    refine IndexTo.at (map_at cDor hlt) ?_
    conv => whnf
    refine ⟨by simp only [List.length_map, List.length_take]; omega, by simp only [List.length_cons, List.length_nil]; omega, ?_⟩
    conv => whnf
    refine ⟨by kernel_rfl, ?_⟩
    conv => whnf
    refine WrapTo.i64 (by omega) ?_
    conv => whnf
    refine LoopOK.weak _ _ ?_ ?_ ?_ (IH (i2 + 1) (by omega) (by omega))
    · exact ⟨rfl, rfl, rfl, rfl, trivial⟩
    · exact ⟨rfl, rfl, rfl, congrArg (fun z => some (ABox.row T_string 1 z)) (map_succ2 hlt), trivial⟩
    · exact chk_mk ⟨rfl, rfl, rfl, rfl, trivial⟩ ⟨rfl, rfl, rfl, cloX_row (l := (0, 0)) (e := 0) (sz := 0) (by rw [List.map_map]; exact Clo.map (fun y_ => fS (Dor.name y_)) _), trivial⟩ rfl
  have hge2 := le_of_dec hz2
  conv => whnf
  rw [List.take_of_length_le hge2]
  refine LoopOK.less [((F_ref09_named, 48), .row T_string 1 ((x.doors.map Dor.name).map cS))] [(1, .ref (F_ref09_named, 1) 0), (2, .ref (F_ref09_named, 2) 0), (3, .ref (F_ref09_named, 3) 0), (6, .int .i64 0)] [((F_ref09_named, 1), .cells T_api_Sheet (cSht x)), ((F_ref09_named, 2), .cells T_api_Names (zcells ty_api_Names)), ((F_ref09_named, 3), .cells T_api_Names [(.lst 1 (x.stops.map cS)), (.lst 1 ((x.paths.map Pth.name).map cS)), (.lst 1 ((x.doors.map Dor.name).map cS)), .emp, .emp, .emp])] ⟨.refl _, .refl _, .refl _, .refl _, trivial⟩ ⟨⟨_, rfl, .refl _⟩, ⟨_, rfl, .refl _⟩, ⟨_, rfl, .cells (.cons (.refl _) (.cons (.refl _) (.cons (.own List.mem_cons_self (by simp only [List.length_map]; omega)) (.refl _))))⟩, trivial⟩ ⟨rfl, (by rw [List.map_map]; exact Clo.map (fun y_ => fS (Dor.name y_)) _), rfl, trivial⟩ (rfl) ?_
  refine LoopOK.conv (Conv.empOwnBox (F_ref09_named, 3) 3 rfl rfl (F_ref09_named, 66) rfl T_string 1) ?_
  refine LoopOK.weak _ _ ?_ ?_ ?_ (LoopOK.ind (fun i : Nat => x.routes.length - i) (fun i => [(1, .ref (F_ref09_named, 1) 0), (2, .ref (F_ref09_named, 2) 0), (3, .ref (F_ref09_named, 3) 0), (6, .int .i64 i)]) (fun i => [((F_ref09_named, 1), .cells T_api_Sheet (cSht x)), ((F_ref09_named, 2), .cells T_api_Names (zcells ty_api_Names)), ((F_ref09_named, 3), .cells T_api_Names [(.lst 1 (x.stops.map cS)), (.lst 1 ((x.paths.map Pth.name).map cS)), (.lst 1 ((x.doors.map Dor.name).map cS)), (.own (F_ref09_named, 66) i), .emp, .emp]), ((F_ref09_named, 66), .row T_string 1 (((x.routes.take i).map Rte.name).map cS))]) (fun i => i ≤ x.routes.length) ?_ 0 (by omega))
  · exact ⟨rfl, rfl, rfl, rfl, trivial⟩
  · exact ⟨rfl, rfl, rfl, rfl, trivial⟩
  · exact chk_mk ⟨rfl, rfl, rfl, rfl, trivial⟩ ⟨rfl, rfl, rfl, cloX_row (l := (0, 0)) (e := 0) (sz := 0) (by rw [List.map_map]; exact Clo.map (fun y_ => fS (Rte.name y_)) _), trivial⟩ rfl
  intro i3 hi3 IH
  refine LoopOK.round hTh hMx ?_
  conv => whnf
  refine cond_split (fun h => ?_) (fun hz3 => ?_)
  · have hlt := lt_of_dec h
    conv => whnf
    refine IndexTo.at (map_at cRte hlt) ?_
    conv => whnf
    refine ⟨by simp only [List.length_map, List.length_take]; omega, by simp only [List.length_cons, List.length_nil]; omega, ?_⟩
    conv => whnf
    refine ⟨by kernel_rfl, ?_⟩
    conv => whnf
    refine WrapTo.i64 (by omega) ?_
    conv => whnf
    refine LoopOK.weak _ _ ?_ ?_ ?_ (IH (i3 + 1) (by omega) (by omega))
    · exact ⟨rfl, rfl, rfl, rfl, trivial⟩
    · exact ⟨rfl, rfl, rfl, congrArg (fun z => some (ABox.row T_string 1 z)) (map_succ2 hlt), trivial⟩
    · exact chk_mk ⟨rfl, rfl, rfl, rfl, trivial⟩ ⟨rfl, rfl, rfl, cloX_row (l := (0, 0)) (e := 0) (sz := 0) (by rw [List.map_map]; exact Clo.map (fun y_ => fS (Rte.name y_)) _), trivial⟩ rfl
  have hge3 := le_of_dec hz3
  conv => whnf
  rw [List.take_of_length_le hge3]
  refine LoopOK.less [((F_ref09_named, 66), .row T_string 1 ((x.routes.map Rte.name).map cS))] [(1, .ref (F_ref09_named, 1) 0), (2, .ref (F_ref09_named, 2) 0), (3, .ref (F_ref09_named, 3) 0), (7, .int .i64 0)] [((F_ref09_named, 1), .cells T_api_Sheet (cSht x)), ((F_ref09_named, 2), .cells T_api_Names (zcells ty_api_Names)), ((F_ref09_named, 3), .cells T_api_Names [(.lst 1 (x.stops.map cS)), (.lst 1 ((x.paths.map Pth.name).map cS)), (.lst 1 ((x.doors.map Dor.name).map cS)), (.lst 1 ((x.routes.map Rte.name).map cS)), .emp, .emp])] ⟨.refl _, .refl _, .refl _, .refl _, trivial⟩ ⟨⟨_, rfl, .refl _⟩, ⟨_, rfl, .refl _⟩, ⟨_, rfl, .cells (.cons (.refl _) (.cons (.refl _) (.cons (.refl _) (.cons (.own List.mem_cons_self (by simp only [List.length_map]; omega)) (.refl _)))))⟩, trivial⟩ ⟨rfl, (by rw [List.map_map]; exact Clo.map (fun y_ => fS (Rte.name y_)) _), rfl, trivial⟩ (rfl) ?_
  refine LoopOK.conv (Conv.empOwnBox (F_ref09_named, 3) 4 rfl rfl (F_ref09_named, 84) rfl T_string 1) ?_
  refine LoopOK.weak _ _ ?_ ?_ ?_ (LoopOK.ind (fun i : Nat => x.trips.length - i) (fun i => [(1, .ref (F_ref09_named, 1) 0), (2, .ref (F_ref09_named, 2) 0), (3, .ref (F_ref09_named, 3) 0), (7, .int .i64 i)]) (fun i => [((F_ref09_named, 1), .cells T_api_Sheet (cSht x)), ((F_ref09_named, 2), .cells T_api_Names (zcells ty_api_Names)), ((F_ref09_named, 3), .cells T_api_Names [(.lst 1 (x.stops.map cS)), (.lst 1 ((x.paths.map Pth.name).map cS)), (.lst 1 ((x.doors.map Dor.name).map cS)), (.lst 1 ((x.routes.map Rte.name).map cS)), (.own (F_ref09_named, 84) i), .emp]), ((F_ref09_named, 84), .row T_string 1 (((x.trips.take i).map Trp.name).map cS))]) (fun i => i ≤ x.trips.length) ?_ 0 (by omega))
  · exact ⟨rfl, rfl, rfl, rfl, trivial⟩
  · exact ⟨rfl, rfl, rfl, rfl, trivial⟩
  · exact chk_mk ⟨rfl, rfl, rfl, rfl, trivial⟩ ⟨rfl, rfl, rfl, cloX_row (l := (0, 0)) (e := 0) (sz := 0) (by rw [List.map_map]; exact Clo.map (fun y_ => fS (Trp.name y_)) _), trivial⟩ rfl
  intro i4 hi4 IH
  refine LoopOK.round hTh hMx ?_
  conv => whnf
  refine cond_split (fun h => ?_) (fun hz4 => ?_)
  · have hlt := lt_of_dec h
    conv => whnf
    refine IndexTo.at (map_at cTrp hlt) ?_
    conv => whnf
    refine ⟨by simp only [List.length_map, List.length_take]; omega, by simp only [List.length_cons, List.length_nil]; omega, ?_⟩
    conv => whnf
    refine ⟨by kernel_rfl, ?_⟩
    conv => whnf
    refine WrapTo.i64 (by omega) ?_
    conv => whnf
    refine LoopOK.weak _ _ ?_ ?_ ?_ (IH (i4 + 1) (by omega) (by omega))
    · exact ⟨rfl, rfl, rfl, rfl, trivial⟩
    · exact ⟨rfl, rfl, rfl, congrArg (fun z => some (ABox.row T_string 1 z)) (map_succ2 hlt), trivial⟩
    · exact chk_mk ⟨rfl, rfl, rfl, rfl, trivial⟩ ⟨rfl, rfl, rfl, cloX_row (l := (0, 0)) (e := 0) (sz := 0) (by rw [List.map_map]; exact Clo.map (fun y_ => fS (Trp.name y_)) _), trivial⟩ rfl
  have hge4 := le_of_dec hz4
  conv => whnf
  rw [List.take_of_length_le hge4]
  refine LoopOK.less [((F_ref09_named, 84), .row T_string 1 ((x.trips.map Trp.name).map cS))] [(1, .ref (F_ref09_named, 1) 0), (2, .ref (F_ref09_named, 2) 0), (3, .ref (F_ref09_named, 3) 0), (8, .int .i64 0)] [((F_ref09_named, 1), .cells T_api_Sheet (cSht x)), ((F_ref09_named, 2), .cells T_api_Names (zcells ty_api_Names)), ((F_ref09_named, 3), .cells T_api_Names [(.lst 1 (x.stops.map cS)), (.lst 1 ((x.paths.map Pth.name).map cS)), (.lst 1 ((x.doors.map Dor.name).map cS)), (.lst 1 ((x.routes.map Rte.name).map cS)), (.lst 1 ((x.trips.map Trp.name).map cS)), .emp])] ⟨.refl _, .refl _, .refl _, .refl _, trivial⟩ ⟨⟨_, rfl, .refl _⟩, ⟨_, rfl, .refl _⟩, ⟨_, rfl, .cells (.cons (.refl _) (.cons (.refl _) (.cons (.refl _) (.cons (.refl _) (.cons (.own List.mem_cons_self (by simp only [List.length_map]; omega)) (.refl _))))))⟩, trivial⟩ ⟨rfl, (by rw [List.map_map]; exact Clo.map (fun y_ => fS (Trp.name y_)) _), rfl, trivial⟩ (rfl) ?_
  refine LoopOK.conv (Conv.empOwnBox (F_ref09_named, 3) 5 rfl rfl (F_ref09_named, 102) rfl T_string 1) ?_
  refine LoopOK.weak _ _ ?_ ?_ ?_ (LoopOK.ind (fun i : Nat => x.hazards.length - i) (fun i => [(1, .ref (F_ref09_named, 1) 0), (2, .ref (F_ref09_named, 2) 0), (3, .ref (F_ref09_named, 3) 0), (8, .int .i64 i)]) (fun i => [((F_ref09_named, 1), .cells T_api_Sheet (cSht x)), ((F_ref09_named, 2), .cells T_api_Names (zcells ty_api_Names)), ((F_ref09_named, 3), .cells T_api_Names [(.lst 1 (x.stops.map cS)), (.lst 1 ((x.paths.map Pth.name).map cS)), (.lst 1 ((x.doors.map Dor.name).map cS)), (.lst 1 ((x.routes.map Rte.name).map cS)), (.lst 1 ((x.trips.map Trp.name).map cS)), (.own (F_ref09_named, 102) i)]), ((F_ref09_named, 102), .row T_string 1 (((x.hazards.take i).map Hzd.name).map cS))]) (fun i => i ≤ x.hazards.length) ?_ 0 (by omega))
  · exact ⟨rfl, rfl, rfl, rfl, trivial⟩
  · exact ⟨rfl, rfl, rfl, rfl, trivial⟩
  · exact chk_mk ⟨rfl, rfl, rfl, rfl, trivial⟩ ⟨rfl, rfl, rfl, cloX_row (l := (0, 0)) (e := 0) (sz := 0) (by rw [List.map_map]; exact Clo.map (fun y_ => fS (Hzd.name y_)) _), trivial⟩ rfl
  intro i5 hi5 IH
  refine LoopOK.round hTh hMx ?_
  conv => whnf
  refine cond_split (fun h => ?_) (fun hz5 => ?_)
  · have hlt := lt_of_dec h
    conv => whnf
    refine IndexTo.at (map_at cHzd hlt) ?_
    conv => whnf
    refine ⟨by simp only [List.length_map, List.length_take]; omega, by simp only [List.length_cons, List.length_nil]; omega, ?_⟩
    conv => whnf
    refine ⟨by kernel_rfl, ?_⟩
    conv => whnf
    refine WrapTo.i64 (by omega) ?_
    conv => whnf
    refine LoopOK.weak _ _ ?_ ?_ ?_ (IH (i5 + 1) (by omega) (by omega))
    · exact ⟨rfl, rfl, rfl, rfl, trivial⟩
    · exact ⟨rfl, rfl, rfl, congrArg (fun z => some (ABox.row T_string 1 z)) (map_succ2 hlt), trivial⟩
    · exact chk_mk ⟨rfl, rfl, rfl, rfl, trivial⟩ ⟨rfl, rfl, rfl, cloX_row (l := (0, 0)) (e := 0) (sz := 0) (by rw [List.map_map]; exact Clo.map (fun y_ => fS (Hzd.name y_)) _), trivial⟩ rfl
  have hge5 := le_of_dec hz5
  conv => whnf
  rw [List.take_of_length_le hge5]
  refine CodeTo.less [((F_ref09_named, 102), .row T_string 1 ((x.hazards.map Hzd.name).map cS))] [(1, .ref (F_ref09_named, 1) 0), (2, .ref (F_ref09_named, 2) 0), (3, .ref (F_ref09_named, 3) 0)] [((F_ref09_named, 1), .cells T_api_Sheet (cSht x)), ((F_ref09_named, 2), .cells T_api_Names (zcells ty_api_Names)), ((F_ref09_named, 3), .cells T_api_Names [(.lst 1 (x.stops.map cS)), (.lst 1 ((x.paths.map Pth.name).map cS)), (.lst 1 ((x.doors.map Dor.name).map cS)), (.lst 1 ((x.routes.map Rte.name).map cS)), (.lst 1 ((x.trips.map Trp.name).map cS)), (.lst 1 ((x.hazards.map Hzd.name).map cS))])] ⟨.refl _, .refl _, .refl _, trivial⟩ ⟨⟨_, rfl, .refl _⟩, ⟨_, rfl, .refl _⟩, ⟨_, rfl, .cells (.cons (.refl _) (.cons (.refl _) (.cons (.refl _) (.cons (.refl _) (.cons (.refl _) (.cons (.own List.mem_cons_self (by simp only [List.length_map]; omega)) (.refl _)))))))⟩, trivial⟩ ⟨rfl, (by rw [List.map_map]; exact Clo.map (fun y_ => fS (Hzd.name y_)) _), rfl, trivial⟩ (rfl) ?_
  refine CodeTo.go hTh hMx ?_
  conv => whnf
  exact Fin.pure hTh [.agg (cNms (nmsOf x))] rfl rfl rfl
theorem m_ref09_numbered (G : GlP) (x : Sht) (hx : ShtFits x) : Meets Pg G F_ref09_numbered [.agg (cSht x)] [] (.agg (cWld (numW x))) [] := by
  have b0 := hx.stops
  have b1 := hx.paths
  have b2 := hx.doors
  have b3 := hx.routes
  have b4 := hx.trips
  have b5 := hx.hazards
  refine meets_pure (F := { fe_ref09_numbered with stops := [18, 30] }) hTh hMx func_ref09_numbered rfl call_ref09_numbered rfl rfl rfl ?_
  conv => whnf
  refine CallTo.fn (m_ref09_named G x hx) ?_
  conv => whnf
  refine ⟨by kernel_rfl, ?_⟩
  conv => whnf
  refine LoopOK.conv (Conv.empOwnBox (F_ref09_numbered, 3) 7 rfl rfl (F_ref09_numbered, 52) rfl T_api_PathOf 3) ?_
  refine LoopOK.weak _ _ ?_ ?_ ?_ (LoopOK.ind (fun i : Nat => x.paths.length - i) (fun i => [(1, .ref (F_ref09_numbered, 1) 0), (2, .ref (F_ref09_numbered, 2) 0), (3, .ref (F_ref09_numbered, 3) 0), (4, .int .i64 i)]) (fun i => [((F_ref09_numbered, 1), .cells T_api_Sheet (cSht x)), ((F_ref09_numbered, 2), .cells T_api_World (zcells ty_api_World)), ((F_ref09_numbered, 3), .cells T_api_World [(.int .i64 x.hor), (.lst 1 (x.stops.map cS)), (.lst 1 ((x.paths.map Pth.name).map cS)), (.lst 1 ((x.doors.map Dor.name).map cS)), (.lst 1 ((x.routes.map Rte.name).map cS)), (.lst 1 ((x.trips.map Trp.name).map cS)), (.lst 1 ((x.hazards.map Hzd.name).map cS)), (.own (F_ref09_numbered, 52) i), .emp, .emp, .emp, .emp]), ((F_ref09_numbered, 52), .row T_api_PathOf 3 (((x.paths.take i).map (pthO x)).map cPthO))]) (fun i => i ≤ x.paths.length) ?_ 0 (by omega))
  · exact ⟨rfl, rfl, rfl, rfl, trivial⟩
  · exact ⟨rfl, rfl, rfl, rfl, trivial⟩
  · exact chk_mk ⟨rfl, rfl, rfl, rfl, trivial⟩ ⟨rfl, rfl, rfl, cloX_row (l := (0, 0)) (e := 0) (sz := 0) (by rw [List.map_map]; exact Clo.map (fun y_ => fPthO ((pthO x) y_)) _), trivial⟩ rfl
  intro i1 hi1 IH
  refine LoopOK.round hTh hMx ?_
  conv => whnf
  refine cond_split (fun h => ?_) (fun hz1 => ?_)
  · have hlt := lt_of_dec h
    conv => whnf
    refine IndexTo.at (map_at cPth hlt) ?_
    conv => whnf
    refine CallTo.fn (m_ref09_place G x.stops _ (by omega)) ?_
    conv => whnf
    refine IndexTo.at (map_at cPth hlt) ?_
    conv => whnf
    refine CallTo.fn (m_ref09_place G x.stops _ (by omega)) ?_
    conv => whnf
    refine IndexTo.at (map_at cPth hlt) ?_
    conv => whnf
    refine ⟨by simp only [List.length_map, List.length_take]; omega, by simp only [List.length_cons, List.length_nil]; omega, ?_⟩
    conv => whnf
    refine ⟨by kernel_rfl, ?_⟩
    conv => whnf
    refine WrapTo.i64 (by omega) ?_
    conv => whnf
    refine LoopOK.weak _ _ ?_ ?_ ?_ (IH (i1 + 1) (by omega) (by omega))
    · exact ⟨rfl, rfl, rfl, rfl, trivial⟩
    · exact ⟨rfl, rfl, rfl, congrArg (fun z => some (ABox.row T_api_PathOf 3 z)) (map_succ2 hlt), trivial⟩
    · exact chk_mk ⟨rfl, rfl, rfl, rfl, trivial⟩ ⟨rfl, rfl, rfl, cloX_row (l := (0, 0)) (e := 0) (sz := 0) (by rw [List.map_map]; exact Clo.map (fun y_ => fPthO ((pthO x) y_)) _), trivial⟩ rfl
  have hge1 := le_of_dec hz1
  conv => whnf
  rw [List.take_of_length_le hge1]
  refine LoopOK.less [((F_ref09_numbered, 52), .row T_api_PathOf 3 ((x.paths.map (pthO x)).map cPthO))] [(1, .ref (F_ref09_numbered, 1) 0), (2, .ref (F_ref09_numbered, 2) 0), (3, .ref (F_ref09_numbered, 3) 0), (5, .int .i64 0)] [((F_ref09_numbered, 1), .cells T_api_Sheet (cSht x)), ((F_ref09_numbered, 2), .cells T_api_World (zcells ty_api_World)), ((F_ref09_numbered, 3), .cells T_api_World [(.int .i64 x.hor), (.lst 1 (x.stops.map cS)), (.lst 1 ((x.paths.map Pth.name).map cS)), (.lst 1 ((x.doors.map Dor.name).map cS)), (.lst 1 ((x.routes.map Rte.name).map cS)), (.lst 1 ((x.trips.map Trp.name).map cS)), (.lst 1 ((x.hazards.map Hzd.name).map cS)), (.lst 3 ((x.paths.map (pthO x)).map cPthO)), .emp, .emp, .emp, .emp])] ⟨.refl _, .refl _, .refl _, .refl _, trivial⟩ ⟨⟨_, rfl, .refl _⟩, ⟨_, rfl, .refl _⟩, ⟨_, rfl, .cells (.cons (.refl _) (.cons (.refl _) (.cons (.refl _) (.cons (.refl _) (.cons (.refl _) (.cons (.refl _) (.cons (.refl _) (.cons (.own List.mem_cons_self (by simp only [List.length_map]; omega)) (.refl _)))))))))⟩, trivial⟩ ⟨rfl, (by rw [List.map_map]; exact Clo.map (fun y_ => fPthO ((pthO x) y_)) _), rfl, trivial⟩ (rfl) ?_
  refine LoopOK.conv (Conv.empOwnBox (F_ref09_numbered, 3) 8 rfl rfl (F_ref09_numbered, 94) rfl T_api_DoorOf 6) ?_
  refine LoopOK.weak _ _ ?_ ?_ ?_ (LoopOK.ind (fun i : Nat => x.doors.length - i) (fun i => [(1, .ref (F_ref09_numbered, 1) 0), (2, .ref (F_ref09_numbered, 2) 0), (3, .ref (F_ref09_numbered, 3) 0), (5, .int .i64 i)]) (fun i => [((F_ref09_numbered, 1), .cells T_api_Sheet (cSht x)), ((F_ref09_numbered, 2), .cells T_api_World (zcells ty_api_World)), ((F_ref09_numbered, 3), .cells T_api_World [(.int .i64 x.hor), (.lst 1 (x.stops.map cS)), (.lst 1 ((x.paths.map Pth.name).map cS)), (.lst 1 ((x.doors.map Dor.name).map cS)), (.lst 1 ((x.routes.map Rte.name).map cS)), (.lst 1 ((x.trips.map Trp.name).map cS)), (.lst 1 ((x.hazards.map Hzd.name).map cS)), (.lst 3 ((x.paths.map (pthO x)).map cPthO)), (.own (F_ref09_numbered, 94) i), .emp, .emp, .emp]), ((F_ref09_numbered, 94), .row T_api_DoorOf 6 (((x.doors.take i).map (dorO x)).map cDorO))]) (fun i => i ≤ x.doors.length) ?_ 0 (by omega))
  · exact ⟨rfl, rfl, rfl, rfl, trivial⟩
  · exact ⟨rfl, rfl, rfl, rfl, trivial⟩
  · exact chk_mk ⟨rfl, rfl, rfl, rfl, trivial⟩ ⟨rfl, rfl, rfl, cloX_row (l := (0, 0)) (e := 0) (sz := 0) (by rw [List.map_map]; exact Clo.map (fun y_ => fDorO ((dorO x) y_)) _), trivial⟩ rfl
  intro i2 hi2 IH
  refine LoopOK.round hTh hMx ?_
  conv => whnf
  refine cond_split (fun h => ?_) (fun hz2 => ?_)
  · have hlt := lt_of_dec h
    conv => whnf
    refine IndexTo.at (map_at cDor hlt) ?_
    conv => whnf
    refine CallTo.fn (m_ref09_place G x.stops _ (by omega)) ?_
    conv => whnf
    refine IndexTo.at (map_at cDor hlt) ?_
    conv => whnf
    refine CallTo.fn (m_ref09_place G x.stops _ (by omega)) ?_
    conv => whnf
    refine IndexTo.at (map_at cDor hlt) ?_
    conv => whnf
    refine IndexTo.at (map_at cDor hlt) ?_
    conv => whnf
    refine ⟨by simp only [List.length_map, List.length_take]; omega, by simp only [List.length_cons, List.length_nil]; omega, ?_⟩
    conv => whnf
    refine ⟨by kernel_rfl, ?_⟩
    conv => whnf
    refine WrapTo.i64 (by omega) ?_
    conv => whnf
    refine LoopOK.weak _ _ ?_ ?_ ?_ (IH (i2 + 1) (by omega) (by omega))
    · exact ⟨rfl, rfl, rfl, rfl, trivial⟩
    · exact ⟨rfl, rfl, rfl, congrArg (fun z => some (ABox.row T_api_DoorOf 6 z)) (map_succ2 hlt), trivial⟩
    · exact chk_mk ⟨rfl, rfl, rfl, rfl, trivial⟩ ⟨rfl, rfl, rfl, cloX_row (l := (0, 0)) (e := 0) (sz := 0) (by rw [List.map_map]; exact Clo.map (fun y_ => fDorO ((dorO x) y_)) _), trivial⟩ rfl
  have hge2 := le_of_dec hz2
  conv => whnf
  rw [List.take_of_length_le hge2]
  refine LoopOK.less [((F_ref09_numbered, 94), .row T_api_DoorOf 6 ((x.doors.map (dorO x)).map cDorO))] [(1, .ref (F_ref09_numbered, 1) 0), (2, .ref (F_ref09_numbered, 2) 0), (3, .ref (F_ref09_numbered, 3) 0), (6, .int .i64 0)] [((F_ref09_numbered, 1), .cells T_api_Sheet (cSht x)), ((F_ref09_numbered, 2), .cells T_api_World (zcells ty_api_World)), ((F_ref09_numbered, 3), .cells T_api_World [(.int .i64 x.hor), (.lst 1 (x.stops.map cS)), (.lst 1 ((x.paths.map Pth.name).map cS)), (.lst 1 ((x.doors.map Dor.name).map cS)), (.lst 1 ((x.routes.map Rte.name).map cS)), (.lst 1 ((x.trips.map Trp.name).map cS)), (.lst 1 ((x.hazards.map Hzd.name).map cS)), (.lst 3 ((x.paths.map (pthO x)).map cPthO)), (.lst 6 ((x.doors.map (dorO x)).map cDorO)), .emp, .emp, .emp])] ⟨.refl _, .refl _, .refl _, .refl _, trivial⟩ ⟨⟨_, rfl, .refl _⟩, ⟨_, rfl, .refl _⟩, ⟨_, rfl, .cells (.cons (.refl _) (.cons (.refl _) (.cons (.refl _) (.cons (.refl _) (.cons (.refl _) (.cons (.refl _) (.cons (.refl _) (.cons (.refl _) (.cons (.own List.mem_cons_self (by simp only [List.length_map]; omega)) (.refl _))))))))))⟩, trivial⟩ ⟨rfl, (by rw [List.map_map]; exact Clo.map (fun y_ => fDorO ((dorO x) y_)) _), rfl, trivial⟩ (rfl) ?_
  refine LoopOK.conv (Conv.empOwnBox (F_ref09_numbered, 3) 9 rfl rfl (F_ref09_numbered, 153) rfl T_api_RouteOf 3) ?_
  refine LoopOK.weak _ _ ?_ ?_ ?_ (LoopOK.ind (fun i : Nat => x.routes.length - i) (fun i => [(1, .ref (F_ref09_numbered, 1) 0), (2, .ref (F_ref09_numbered, 2) 0), (3, .ref (F_ref09_numbered, 3) 0), (6, .int .i64 i)]) (fun i => [((F_ref09_numbered, 1), .cells T_api_Sheet (cSht x)), ((F_ref09_numbered, 2), .cells T_api_World (zcells ty_api_World)), ((F_ref09_numbered, 3), .cells T_api_World [(.int .i64 x.hor), (.lst 1 (x.stops.map cS)), (.lst 1 ((x.paths.map Pth.name).map cS)), (.lst 1 ((x.doors.map Dor.name).map cS)), (.lst 1 ((x.routes.map Rte.name).map cS)), (.lst 1 ((x.trips.map Trp.name).map cS)), (.lst 1 ((x.hazards.map Hzd.name).map cS)), (.lst 3 ((x.paths.map (pthO x)).map cPthO)), (.lst 6 ((x.doors.map (dorO x)).map cDorO)), (.own (F_ref09_numbered, 153) i), .emp, .emp]), ((F_ref09_numbered, 153), .row T_api_RouteOf 3 (((x.routes.take i).map (rteO x)).map cRteO))]) (fun i => i ≤ x.routes.length) ?_ 0 (by omega))
  · exact ⟨rfl, rfl, rfl, rfl, trivial⟩
  · exact ⟨rfl, rfl, rfl, rfl, trivial⟩
  · exact chk_mk ⟨rfl, rfl, rfl, rfl, trivial⟩ ⟨rfl, rfl, rfl, cloX_row (l := (0, 0)) (e := 0) (sz := 0) (by rw [List.map_map]; exact Clo.map (fun y => fRteO (rteO x y)) _), trivial⟩ rfl
  intro i3 hi3 IH3
  refine LoopOK.round hTh hMx ?_
  conv => whnf
  refine cond_split (fun h => ?_) (fun hz3 => ?_)
  · have hlt3 := lt_of_dec h
    have hr := hx.each _ (List.getElem_mem hlt3)
    have r0 := hr.stops
    have r1 := hr.rides
    have r2 := hr.stays
    conv => whnf
    refine IndexTo.at (map_at cRte hlt3) ?_
    conv => whnf
    refine ⟨by simp only [List.length_map]; omega, ?_⟩
    conv => whnf
    refine IndexTo.at (map_at cRte hlt3) ?_
    conv => whnf
    refine ⟨by simp only [List.length_map]; omega, ?_⟩
    conv => whnf
    refine ⟨by kernel_rfl, ?_⟩
    conv => whnf
    refine LoopOK.less [((F_ref09_numbered, 111), .row T_i64 1 ((x.routes[i3]).rides.map cI)), ((F_ref09_numbered, 119), .row T_i64 1 ((x.routes[i3]).stays.map cI))] [(1, .ref (F_ref09_numbered, 1) 0), (2, .ref (F_ref09_numbered, 2) 0), (3, .ref (F_ref09_numbered, 3) 0), (6, .int .i64 i3), (7, .ref (F_ref09_numbered, 7) 0), (8, .int .i64 0)]
      [((F_ref09_numbered, 1), .cells T_api_Sheet (cSht x)), ((F_ref09_numbered, 2), .cells T_api_World (zcells ty_api_World)), ((F_ref09_numbered, 3), .cells T_api_World [(.int .i64 x.hor), (.lst 1 (x.stops.map cS)), (.lst 1 ((x.paths.map Pth.name).map cS)), (.lst 1 ((x.doors.map Dor.name).map cS)), (.lst 1 ((x.routes.map Rte.name).map cS)), (.lst 1 ((x.trips.map Trp.name).map cS)), (.lst 1 ((x.hazards.map Hzd.name).map cS)), (.lst 3 ((x.paths.map (pthO x)).map cPthO)), (.lst 6 ((x.doors.map (dorO x)).map cDorO)), (.own (F_ref09_numbered, 153) i3), .emp, .emp]), ((F_ref09_numbered, 153), .row T_api_RouteOf 3 (((x.routes.take i3).map (rteO x)).map cRteO)), ((F_ref09_numbered, 7), .cells T_api_RouteOf [.emp, .lst 1 ((x.routes[i3]).rides.map cI), .lst 1 ((x.routes[i3]).stays.map cI)])]
      ⟨.refl _, .refl _, .refl _, .refl _, .refl _, .refl _, trivial⟩ ⟨⟨_, rfl, .refl _⟩, ⟨_, rfl, .refl _⟩, ⟨_, rfl, .refl _⟩, ⟨_, rfl, .refl _⟩, ⟨_, rfl, .cells (.cons (.refl _) (.cons (.own List.mem_cons_self rfl) (.cons (.own (List.mem_cons_of_mem _ List.mem_cons_self) rfl) (.refl _))))⟩, trivial⟩
      ⟨rfl, Clo.map fI _, rfl, rfl, Clo.map fI _, rfl, trivial⟩ (chk_mk ⟨rfl, rfl, rfl, rfl, rfl, rfl, trivial⟩ ⟨rfl, rfl, rfl, cloX_row (l := (0, 0)) (e := 0) (sz := 0) (by rw [List.map_map]; exact Clo.map (fun y => fRteO (rteO x y)) _), rfl, trivial⟩ rfl) ?_
    refine LoopOK.conv (Conv.empOwnBox (F_ref09_numbered, 7) 0 rfl rfl (F_ref09_numbered, 147) rfl T_int 1) ?_
    refine LoopOK.weak _ _ ?_ ?_ ?_ (LoopOK.ind (fun i : Nat => (x.routes[i3]).stops.length - i) (fun i => [(1, .ref (F_ref09_numbered, 1) 0), (2, .ref (F_ref09_numbered, 2) 0), (3, .ref (F_ref09_numbered, 3) 0), (6, .int .i64 i3), (7, .ref (F_ref09_numbered, 7) 0), (8, .int .i64 i)]) (fun i => [((F_ref09_numbered, 1), .cells T_api_Sheet (cSht x)), ((F_ref09_numbered, 2), .cells T_api_World (zcells ty_api_World)), ((F_ref09_numbered, 3), .cells T_api_World [(.int .i64 x.hor), (.lst 1 (x.stops.map cS)), (.lst 1 ((x.paths.map Pth.name).map cS)), (.lst 1 ((x.doors.map Dor.name).map cS)), (.lst 1 ((x.routes.map Rte.name).map cS)), (.lst 1 ((x.trips.map Trp.name).map cS)), (.lst 1 ((x.hazards.map Hzd.name).map cS)), (.lst 3 ((x.paths.map (pthO x)).map cPthO)), (.lst 6 ((x.doors.map (dorO x)).map cDorO)), (.own (F_ref09_numbered, 153) i3), .emp, .emp]), ((F_ref09_numbered, 153), .row T_api_RouteOf 3 (((x.routes.take i3).map (rteO x)).map cRteO)), ((F_ref09_numbered, 7), .cells T_api_RouteOf [(.own (F_ref09_numbered, 147) i), .lst 1 ((x.routes[i3]).rides.map cI), .lst 1 ((x.routes[i3]).stays.map cI)]), ((F_ref09_numbered, 147), .row T_int 1 ((((x.routes[i3]).stops.take i).map (placeS x.stops)).map cI))]) (fun i => i ≤ (x.routes[i3]).stops.length) ?_ 0 (by omega))
    · exact ⟨rfl, rfl, rfl, rfl, rfl, rfl, trivial⟩
    · exact ⟨rfl, rfl, rfl, rfl, rfl, rfl, trivial⟩
    · exact chk_mk ⟨rfl, rfl, rfl, rfl, rfl, rfl, trivial⟩ ⟨rfl, rfl, rfl, cloX_row (l := (0, 0)) (e := 0) (sz := 0) (by rw [List.map_map]; exact Clo.map (fun y => fRteO (rteO x y)) _), rfl, cloX_row (l := (0, 0)) (e := 0) (sz := 0) (by rw [List.map_map]; exact Clo.map (fun y_ => fI ((placeS x.stops) y_)) _), trivial⟩ rfl
    intro i4 hi4 IH
    refine LoopOK.round hTh hMx ?_
    conv => whnf
    refine IndexTo.at (map_at cRte hlt3) ?_
    conv => whnf
    refine cond_split (fun h => ?_) (fun hz4 => ?_)
    · have hlt := lt_of_dec h
      conv => whnf
      refine IndexTo.at (map_at cRte hlt3) ?_
      conv => whnf
      refine IndexTo.at (map_at cS hlt) ?_
      conv => whnf
      refine CallTo.fn (m_ref09_place G x.stops _ (by omega)) ?_
      conv => whnf
      refine ⟨by simp only [List.length_map, List.length_take]; omega, by simp only [List.length_cons, List.length_nil]; omega, ?_⟩
      conv => whnf
      refine ⟨by kernel_rfl, ?_⟩
      conv => whnf
      refine WrapTo.i64 (by omega) ?_
      conv => whnf
      refine LoopOK.weak _ _ ?_ ?_ ?_ (IH (i4 + 1) (by omega) (by omega))
      · exact ⟨rfl, rfl, rfl, rfl, rfl, rfl, trivial⟩
      · exact ⟨rfl, rfl, rfl, rfl, rfl, congrArg (fun z => some (ABox.row T_int 1 z)) (map_succ2 hlt), trivial⟩
      · exact chk_mk ⟨rfl, rfl, rfl, rfl, rfl, rfl, trivial⟩ ⟨rfl, rfl, rfl, cloX_row (l := (0, 0)) (e := 0) (sz := 0) (by rw [List.map_map]; exact Clo.map (fun y => fRteO (rteO x y)) _), rfl, cloX_row (l := (0, 0)) (e := 0) (sz := 0) (by rw [List.map_map]; exact Clo.map (fun y_ => fI ((placeS x.stops) y_)) _), trivial⟩ rfl
    have hge4 := le_of_dec hz4
    conv => whnf
    rw [List.take_of_length_le hge4]
    refine CodeTo.less [((F_ref09_numbered, 147), .row T_int 1 (((x.routes[i3]).stops.map (placeS x.stops)).map cI))] [(1, .ref (F_ref09_numbered, 1) 0), (2, .ref (F_ref09_numbered, 2) 0), (3, .ref (F_ref09_numbered, 3) 0), (6, .int .i64 i3), (7, .ref (F_ref09_numbered, 7) 0)] [((F_ref09_numbered, 1), .cells T_api_Sheet (cSht x)), ((F_ref09_numbered, 2), .cells T_api_World (zcells ty_api_World)), ((F_ref09_numbered, 3), .cells T_api_World [(.int .i64 x.hor), (.lst 1 (x.stops.map cS)), (.lst 1 ((x.paths.map Pth.name).map cS)), (.lst 1 ((x.doors.map Dor.name).map cS)), (.lst 1 ((x.routes.map Rte.name).map cS)), (.lst 1 ((x.trips.map Trp.name).map cS)), (.lst 1 ((x.hazards.map Hzd.name).map cS)), (.lst 3 ((x.paths.map (pthO x)).map cPthO)), (.lst 6 ((x.doors.map (dorO x)).map cDorO)), (.own (F_ref09_numbered, 153) i3), .emp, .emp]), ((F_ref09_numbered, 153), .row T_api_RouteOf 3 (((x.routes.take i3).map (rteO x)).map cRteO)), ((F_ref09_numbered, 7), .cells T_api_RouteOf [(.lst 1 (((x.routes[i3]).stops.map (placeS x.stops)).map cI)), .lst 1 ((x.routes[i3]).rides.map cI), .lst 1 ((x.routes[i3]).stays.map cI)])] ⟨.refl _, .refl _, .refl _, .refl _, .refl _, trivial⟩ ⟨⟨_, rfl, .refl _⟩, ⟨_, rfl, .refl _⟩, ⟨_, rfl, .refl _⟩, ⟨_, rfl, .refl _⟩, ⟨_, rfl, .cells (.cons (.own List.mem_cons_self (by simp only [List.length_map]; omega)) (.refl _))⟩, trivial⟩ ⟨rfl, (by rw [List.map_map]; exact Clo.map (fun y_ => fI ((placeS x.stops) y_)) _), rfl, trivial⟩ (chk_mk ⟨rfl, rfl, rfl, rfl, rfl, trivial⟩ ⟨rfl, rfl, rfl, cloX_row (l := (0, 0)) (e := 0) (sz := 0) (by rw [List.map_map]; exact Clo.map (fun y => fRteO (rteO x y)) _), rfl, trivial⟩ rfl) ?_
    refine CodeTo.go hTh hMx ?_
    conv => whnf
    refine ⟨by simp only [List.length_map, List.length_take]; omega, by simp only [List.length_cons, List.length_nil]; omega, ?_⟩
    conv => whnf
    refine WrapTo.i64 (by omega) ?_
    conv => whnf
    refine LoopOK.weak _ _ ?_ ?_ ?_ (IH3 (i3 + 1) (by omega) (by omega))
    · exact ⟨rfl, rfl, rfl, rfl, trivial⟩
    · exact ⟨rfl, rfl, rfl, congrArg (fun z => some (ABox.row T_api_RouteOf 3 z)) (map_succ2 (g := rteO x) hlt3), trivial⟩
    · exact chk_mk ⟨rfl, rfl, rfl, rfl, trivial⟩ ⟨rfl, rfl, rfl, cloX_row (l := (0, 0)) (e := 0) (sz := 0) (by rw [List.map_map]; exact Clo.map (fun y => fRteO (rteO x y)) _), trivial⟩ rfl
  have hge3 := le_of_dec hz3
  conv => whnf
  rw [List.take_of_length_le hge3]
  refine LoopOK.less [((F_ref09_numbered, 153), .row T_api_RouteOf 3 ((x.routes.map (rteO x)).map cRteO))] [(1, .ref (F_ref09_numbered, 1) 0), (2, .ref (F_ref09_numbered, 2) 0), (3, .ref (F_ref09_numbered, 3) 0), (9, .int .i64 0)] [((F_ref09_numbered, 1), .cells T_api_Sheet (cSht x)), ((F_ref09_numbered, 2), .cells T_api_World (zcells ty_api_World)), ((F_ref09_numbered, 3), .cells T_api_World [(.int .i64 x.hor), (.lst 1 (x.stops.map cS)), (.lst 1 ((x.paths.map Pth.name).map cS)), (.lst 1 ((x.doors.map Dor.name).map cS)), (.lst 1 ((x.routes.map Rte.name).map cS)), (.lst 1 ((x.trips.map Trp.name).map cS)), (.lst 1 ((x.hazards.map Hzd.name).map cS)), (.lst 3 ((x.paths.map (pthO x)).map cPthO)), (.lst 6 ((x.doors.map (dorO x)).map cDorO)), (.lst 3 ((x.routes.map (rteO x)).map cRteO)), .emp, .emp])] ⟨.refl _, .refl _, .refl _, .refl _, trivial⟩ ⟨⟨_, rfl, .refl _⟩, ⟨_, rfl, .refl _⟩, ⟨_, rfl, .cells (.cons (.refl _) (.cons (.refl _) (.cons (.refl _) (.cons (.refl _) (.cons (.refl _) (.cons (.refl _) (.cons (.refl _) (.cons (.refl _) (.cons (.refl _) (.cons (.own List.mem_cons_self (by simp only [List.length_map]; omega)) (.refl _)))))))))))⟩, trivial⟩ ⟨rfl, (by rw [List.map_map]; exact Clo.map (fun y => fRteO (rteO x y)) _), rfl, trivial⟩ rfl ?_
  refine LoopOK.conv (Conv.empOwnBox (F_ref09_numbered, 3) 10 rfl rfl (F_ref09_numbered, 194) rfl T_api_TripOf 4) ?_
  refine LoopOK.weak _ _ ?_ ?_ ?_ (LoopOK.ind (fun i : Nat => x.trips.length - i) (fun i => [(1, .ref (F_ref09_numbered, 1) 0), (2, .ref (F_ref09_numbered, 2) 0), (3, .ref (F_ref09_numbered, 3) 0), (9, .int .i64 i)]) (fun i => [((F_ref09_numbered, 1), .cells T_api_Sheet (cSht x)), ((F_ref09_numbered, 2), .cells T_api_World (zcells ty_api_World)), ((F_ref09_numbered, 3), .cells T_api_World [(.int .i64 x.hor), (.lst 1 (x.stops.map cS)), (.lst 1 ((x.paths.map Pth.name).map cS)), (.lst 1 ((x.doors.map Dor.name).map cS)), (.lst 1 ((x.routes.map Rte.name).map cS)), (.lst 1 ((x.trips.map Trp.name).map cS)), (.lst 1 ((x.hazards.map Hzd.name).map cS)), (.lst 3 ((x.paths.map (pthO x)).map cPthO)), (.lst 6 ((x.doors.map (dorO x)).map cDorO)), (.lst 3 ((x.routes.map (rteO x)).map cRteO)), (.own (F_ref09_numbered, 194) i), .emp]), ((F_ref09_numbered, 194), .row T_api_TripOf 4 (((x.trips.take i).map (trpO x)).map cTrpO))]) (fun i => i ≤ x.trips.length) ?_ 0 (by omega))
  · exact ⟨rfl, rfl, rfl, rfl, trivial⟩
  · exact ⟨rfl, rfl, rfl, rfl, trivial⟩
  · exact chk_mk ⟨rfl, rfl, rfl, rfl, trivial⟩ ⟨rfl, rfl, rfl, cloX_row (l := (0, 0)) (e := 0) (sz := 0) (by rw [List.map_map]; exact Clo.map (fun y_ => fTrpO ((trpO x) y_)) _), trivial⟩ rfl
  intro i5 hi5 IH
  refine LoopOK.round hTh hMx ?_
  conv => whnf
  refine cond_split (fun h => ?_) (fun hz5 => ?_)
  · have hlt := lt_of_dec h
    conv => whnf
    refine IndexTo.at (map_at cTrp hlt) ?_
    conv => whnf
    refine CallTo.fn (m_ref09_place G (x.routes.map Rte.name) _ (by simp; omega)) ?_
    conv => whnf
    refine IndexTo.at (map_at cTrp hlt) ?_
    conv => whnf
    refine IndexTo.at (map_at cTrp hlt) ?_
    conv => whnf
    refine IndexTo.at (map_at cTrp hlt) ?_
    conv => whnf
    refine ⟨by simp only [List.length_map, List.length_take]; omega, by simp only [List.length_cons, List.length_nil]; omega, ?_⟩
    conv => whnf
    refine ⟨by kernel_rfl, ?_⟩
    conv => whnf
    refine WrapTo.i64 (by omega) ?_
    conv => whnf
    refine LoopOK.weak _ _ ?_ ?_ ?_ (IH (i5 + 1) (by omega) (by omega))
    · exact ⟨rfl, rfl, rfl, rfl, trivial⟩
    · exact ⟨rfl, rfl, rfl, congrArg (fun z => some (ABox.row T_api_TripOf 4 z)) (map_succ2 hlt), trivial⟩
    · exact chk_mk ⟨rfl, rfl, rfl, rfl, trivial⟩ ⟨rfl, rfl, rfl, cloX_row (l := (0, 0)) (e := 0) (sz := 0) (by rw [List.map_map]; exact Clo.map (fun y_ => fTrpO ((trpO x) y_)) _), trivial⟩ rfl
  have hge5 := le_of_dec hz5
  conv => whnf
  rw [List.take_of_length_le hge5]
  refine LoopOK.less [((F_ref09_numbered, 194), .row T_api_TripOf 4 ((x.trips.map (trpO x)).map cTrpO))] [(1, .ref (F_ref09_numbered, 1) 0), (2, .ref (F_ref09_numbered, 2) 0), (3, .ref (F_ref09_numbered, 3) 0), (10, .int .i64 0)] [((F_ref09_numbered, 1), .cells T_api_Sheet (cSht x)), ((F_ref09_numbered, 2), .cells T_api_World (zcells ty_api_World)), ((F_ref09_numbered, 3), .cells T_api_World [(.int .i64 x.hor), (.lst 1 (x.stops.map cS)), (.lst 1 ((x.paths.map Pth.name).map cS)), (.lst 1 ((x.doors.map Dor.name).map cS)), (.lst 1 ((x.routes.map Rte.name).map cS)), (.lst 1 ((x.trips.map Trp.name).map cS)), (.lst 1 ((x.hazards.map Hzd.name).map cS)), (.lst 3 ((x.paths.map (pthO x)).map cPthO)), (.lst 6 ((x.doors.map (dorO x)).map cDorO)), (.lst 3 ((x.routes.map (rteO x)).map cRteO)), (.lst 4 ((x.trips.map (trpO x)).map cTrpO)), .emp])] ⟨.refl _, .refl _, .refl _, .refl _, trivial⟩ ⟨⟨_, rfl, .refl _⟩, ⟨_, rfl, .refl _⟩, ⟨_, rfl, .cells (.cons (.refl _) (.cons (.refl _) (.cons (.refl _) (.cons (.refl _) (.cons (.refl _) (.cons (.refl _) (.cons (.refl _) (.cons (.refl _) (.cons (.refl _) (.cons (.refl _) (.cons (.own List.mem_cons_self (by simp only [List.length_map]; omega)) (.refl _))))))))))))⟩, trivial⟩ ⟨rfl, (by rw [List.map_map]; exact Clo.map (fun y_ => fTrpO ((trpO x) y_)) _), rfl, trivial⟩ (rfl) ?_
  refine LoopOK.conv (Conv.empOwnBox (F_ref09_numbered, 3) 11 rfl rfl (F_ref09_numbered, 238) rfl T_api_HazardOf 5) ?_
  refine LoopOK.weak _ _ ?_ ?_ ?_ (LoopOK.ind (fun i : Nat => x.hazards.length - i) (fun i => [(1, .ref (F_ref09_numbered, 1) 0), (2, .ref (F_ref09_numbered, 2) 0), (3, .ref (F_ref09_numbered, 3) 0), (10, .int .i64 i)]) (fun i => [((F_ref09_numbered, 1), .cells T_api_Sheet (cSht x)), ((F_ref09_numbered, 2), .cells T_api_World (zcells ty_api_World)), ((F_ref09_numbered, 3), .cells T_api_World [(.int .i64 x.hor), (.lst 1 (x.stops.map cS)), (.lst 1 ((x.paths.map Pth.name).map cS)), (.lst 1 ((x.doors.map Dor.name).map cS)), (.lst 1 ((x.routes.map Rte.name).map cS)), (.lst 1 ((x.trips.map Trp.name).map cS)), (.lst 1 ((x.hazards.map Hzd.name).map cS)), (.lst 3 ((x.paths.map (pthO x)).map cPthO)), (.lst 6 ((x.doors.map (dorO x)).map cDorO)), (.lst 3 ((x.routes.map (rteO x)).map cRteO)), (.lst 4 ((x.trips.map (trpO x)).map cTrpO)), (.own (F_ref09_numbered, 238) i)]), ((F_ref09_numbered, 238), .row T_api_HazardOf 5 (((x.hazards.take i).map (hzdO x)).map cHzdO))]) (fun i => i ≤ x.hazards.length) ?_ 0 (by omega))
  · exact ⟨rfl, rfl, rfl, rfl, trivial⟩
  · exact ⟨rfl, rfl, rfl, rfl, trivial⟩
  · exact chk_mk ⟨rfl, rfl, rfl, rfl, trivial⟩ ⟨rfl, rfl, rfl, cloX_row (l := (0, 0)) (e := 0) (sz := 0) (by rw [List.map_map]; exact Clo.map (fun y_ => fHzdO ((hzdO x) y_)) _), trivial⟩ rfl
  intro i6 hi6 IH
  refine LoopOK.round hTh hMx ?_
  conv => whnf
  refine cond_split (fun h => ?_) (fun hz6 => ?_)
  · have hlt := lt_of_dec h
    conv => whnf
    refine IndexTo.at (map_at cHzd hlt) ?_
    conv => whnf
    refine CallTo.fn (m_ref09_place G x.stops _ (by omega)) ?_
    conv => whnf
    refine IndexTo.at (map_at cHzd hlt) ?_
    conv => whnf
    refine ⟨by kernel_rfl, ?_⟩
    conv => whnf
    refine cond_split (fun hc => ?_) (fun hc => ?_)
    · have hc2 : ¬ 0 ≤ placeS x.stops (x.hazards[i6]).on := by simp at hc; omega
      have e1 : hzdO x x.hazards[i6] = ⟨false, placeS (x.paths.map Pth.name) (x.hazards[i6]).on, (x.hazards[i6]).tm⟩ := by unfold hzdO; rw [if_neg hc2]
      conv => whnf
      refine IndexTo.at (map_at cHzd hlt) ?_
      conv => whnf
      refine CallTo.fn (m_ref09_place G (x.paths.map Pth.name) _ (by simp; omega)) ?_
      conv => whnf
      refine ⟨by kernel_rfl, ?_⟩
      conv => whnf
      refine ⟨by simp only [List.length_map, List.length_take]; omega, by simp only [List.length_cons, List.length_nil]; omega, ?_⟩
      conv => whnf
      refine WrapTo.i64 (by omega) ?_
      conv => whnf
      refine LoopOK.weak _ _ ?_ ?_ ?_ (IH (i6 + 1) (by omega) (by omega))
      · exact ⟨rfl, rfl, rfl, rfl, trivial⟩
      · exact ⟨rfl, rfl, rfl, congrArg (fun z => some (ABox.row T_api_HazardOf 5 z)) (by rw [← map_succ2 hlt, e1]; rfl), trivial⟩
      · exact chk_mk ⟨rfl, rfl, rfl, rfl, trivial⟩ ⟨rfl, rfl, rfl, cloX_row (l := (0, 0)) (e := 0) (sz := 0) (by rw [List.map_map]; exact Clo.map (fun y_ => fHzdO ((hzdO x) y_)) _), trivial⟩ rfl
    · have hc2 : 0 ≤ placeS x.stops (x.hazards[i6]).on := by simp at hc; omega
      have e1 : hzdO x x.hazards[i6] = ⟨true, placeS x.stops (x.hazards[i6]).on, (x.hazards[i6]).tm⟩ := by unfold hzdO; rw [if_pos hc2]
      conv => whnf
      refine ⟨by simp only [List.length_map, List.length_take]; omega, by simp only [List.length_cons, List.length_nil]; omega, ?_⟩
      conv => whnf
      refine WrapTo.i64 (by omega) ?_
      conv => whnf
      refine LoopOK.weak _ _ ?_ ?_ ?_ (IH (i6 + 1) (by omega) (by omega))
      · exact ⟨rfl, rfl, rfl, rfl, trivial⟩
      · exact ⟨rfl, rfl, rfl, congrArg (fun z => some (ABox.row T_api_HazardOf 5 z)) (by rw [← map_succ2 hlt, e1]; rfl), trivial⟩
      · exact chk_mk ⟨rfl, rfl, rfl, rfl, trivial⟩ ⟨rfl, rfl, rfl, cloX_row (l := (0, 0)) (e := 0) (sz := 0) (by rw [List.map_map]; exact Clo.map (fun y_ => fHzdO ((hzdO x) y_)) _), trivial⟩ rfl
  have hge6 := le_of_dec hz6
  conv => whnf
  rw [List.take_of_length_le hge6]
  refine CodeTo.less [((F_ref09_numbered, 238), .row T_api_HazardOf 5 ((x.hazards.map (hzdO x)).map cHzdO))] [(1, .ref (F_ref09_numbered, 1) 0), (2, .ref (F_ref09_numbered, 2) 0), (3, .ref (F_ref09_numbered, 3) 0)] [((F_ref09_numbered, 1), .cells T_api_Sheet (cSht x)), ((F_ref09_numbered, 2), .cells T_api_World (zcells ty_api_World)), ((F_ref09_numbered, 3), .cells T_api_World [(.int .i64 x.hor), (.lst 1 (x.stops.map cS)), (.lst 1 ((x.paths.map Pth.name).map cS)), (.lst 1 ((x.doors.map Dor.name).map cS)), (.lst 1 ((x.routes.map Rte.name).map cS)), (.lst 1 ((x.trips.map Trp.name).map cS)), (.lst 1 ((x.hazards.map Hzd.name).map cS)), (.lst 3 ((x.paths.map (pthO x)).map cPthO)), (.lst 6 ((x.doors.map (dorO x)).map cDorO)), (.lst 3 ((x.routes.map (rteO x)).map cRteO)), (.lst 4 ((x.trips.map (trpO x)).map cTrpO)), (.lst 5 ((x.hazards.map (hzdO x)).map cHzdO))])] ⟨.refl _, .refl _, .refl _, trivial⟩ ⟨⟨_, rfl, .refl _⟩, ⟨_, rfl, .refl _⟩, ⟨_, rfl, .cells (.cons (.refl _) (.cons (.refl _) (.cons (.refl _) (.cons (.refl _) (.cons (.refl _) (.cons (.refl _) (.cons (.refl _) (.cons (.refl _) (.cons (.refl _) (.cons (.refl _) (.cons (.refl _) (.cons (.own List.mem_cons_self (by simp only [List.length_map]; omega)) (.refl _)))))))))))))⟩, trivial⟩ ⟨rfl, (by rw [List.map_map]; exact Clo.map (fun y_ => fHzdO ((hzdO x) y_)) _), rfl, trivial⟩ (rfl) ?_
  refine CodeTo.go hTh hMx ?_
  conv => whnf
  exact Fin.pure hTh [.agg (cWld (numW x))] rfl rfl rfl
end Go.Proofs.YtmfolelgdpkkoaaGreatDoor
/- What the statements share: bounding, copying, comparing sheets and worlds. -/
set_option linter.unusedVariables false
set_option linter.unusedSimpArgs false
set_option maxRecDepth 10000
namespace Go.Ab
def lightR (r : Rte) (m : Int) : Bool := decide ((r.stops.length : Int) ≤ m) && decide ((r.rides.length : Int) ≤ m) && decide ((r.stays.length : Int) ≤ m)
def manyS (x : Sht) (m : Int) : Bool := decide (m < (x.stops.length : Int)) || decide (m < (x.paths.length : Int)) || decide (m < (x.doors.length : Int)) || decide (m < (x.routes.length : Int)) || decide (m < (x.trips.length : Int)) || decide (m < (x.hazards.length : Int))
def lightS (x : Sht) (m : Int) : Bool := !manyS x m && !(x.routes.any fun r => !lightR r 60)
theorem rte_ext {p q : Rte} (h1 : p.name = q.name) (h2 : p.stops = q.stops) (h3 : p.rides = q.rides) (h4 : p.stays = q.stays) : p = q := by
  cases p; cases q; simp_all
theorem sht_ext {p q : Sht} (h1 : p.hor = q.hor) (h2 : p.stops = q.stops) (h3 : p.paths = q.paths) (h4 : p.doors = q.doors) (h5 : p.routes = q.routes) (h6 : p.trips = q.trips) (h7 : p.hazards = q.hazards) : p = q := by
  cases p; cases q; simp_all
end Go.Ab
namespace Go.Proofs.YtmfolelgdpkkoaaGreatDoor
open Go Go.Ab
end Go.Proofs.YtmfolelgdpkkoaaGreatDoor
/- What the statements share, of worlds: bounding, copying, comparing. -/
set_option linter.unusedVariables false
set_option linter.unusedSimpArgs false
set_option maxRecDepth 10000
namespace Go.Ab
structure RteOFits (r : RteO) : Prop where
  stops : r.stops.length ≤ 65536
  rides : r.rides.length ≤ 65536
  stays : r.stays.length ≤ 65536
structure NmsFits (n : Nms) : Prop where
  stops : n.stops.length ≤ 65536
  paths : n.paths.length ≤ 65536
  doors : n.doors.length ≤ 65536
  routes : n.routes.length ≤ 65536
  trips : n.trips.length ≤ 65536
  hazards : n.hazards.length ≤ 65536
structure WldFits (w : Wld) : Prop where
  names : NmsFits w.names
  paths : w.paths.length ≤ 65536
  doors : w.doors.length ≤ 65536
  routes : w.routes.length ≤ 65536
  trips : w.trips.length ≤ 65536
  hazards : w.hazards.length ≤ 65536
  each : ∀ r ∈ w.routes, RteOFits r
def heavyR (r : RteO) : Bool := decide (60 < r.stops.length) || decide (60 < r.rides.length) || decide (60 < r.stays.length)
def manyN (n : Nms) (m : Int) : Bool := decide (m < (n.stops.length : Int)) || decide (m < (n.paths.length : Int)) || decide (m < (n.doors.length : Int)) || decide (m < (n.routes.length : Int)) || decide (m < (n.trips.length : Int)) || decide (m < (n.hazards.length : Int))
def manyW (x : Wld) (m : Int) : Bool := decide (m < (x.paths.length : Int)) || decide (m < (x.doors.length : Int)) || decide (m < (x.routes.length : Int)) || decide (m < (x.trips.length : Int)) || decide (m < (x.hazards.length : Int))
def lightW (x : Wld) (m : Int) : Bool := !manyN x.names m && !manyW x m && !(x.routes.any heavyR)
theorem rteO_ext {p q : RteO} (h2 : p.stops = q.stops) (h3 : p.rides = q.rides) (h4 : p.stays = q.stays) : p = q := by
  cases p; cases q; simp_all
theorem nms_ext {p q : Nms} (h1 : p.stops = q.stops) (h2 : p.paths = q.paths) (h3 : p.doors = q.doors) (h4 : p.routes = q.routes) (h5 : p.trips = q.trips) (h6 : p.hazards = q.hazards) : p = q := by
  cases p; cases q; simp_all
theorem wld_ext {p q : Wld} (h1 : p.hor = q.hor) (h2 : p.names = q.names) (h3 : p.paths = q.paths) (h4 : p.doors = q.doors) (h5 : p.routes = q.routes) (h6 : p.trips = q.trips) (h7 : p.hazards = q.hazards) : p = q := by
  cases p; cases q; simp_all
end Go.Ab
namespace Go.Proofs.YtmfolelgdpkkoaaGreatDoor
open Go Go.Ab
theorem m_kit_LightWorld (G : GlP) (x : Wld) (m : Int) (hm : m ≤ 65536) : Meets Pg G F_kit_LightWorld [.agg (cWld x), .int .i64 m] [] (.bool (lightW x m)) [] := by
  refine meets_pure (F := fe_kit_LightWorld) hTh hMx func_kit_LightWorld rfl call_kit_LightWorld rfl rfl rfl ?_
  conv => whnf
  iterate 5
    refine cond_split (fun h => ?_) (fun _ => ?_)
    · conv => whnf
      have : manyN x.names m = true := by simp [manyN] at h ⊢; omega
      exact Fin.one hTh rfl (by simp [getT, ofValue, lightW, this]) rfl
    conv => whnf
  refine cond_split (fun h => ?_) (fun _ => ?_)
  · conv => whnf
    have : manyN x.names m = true := by simp [manyN] at h ⊢; omega
    exact Fin.one hTh rfl (by simp [getT, ofValue, lightW, this]) rfl
  have hn : manyN x.names m = false := by simp_all [manyN] <;> omega
  conv => whnf
  iterate 4
    refine cond_split (fun h => ?_) (fun _ => ?_)
    · conv => whnf
      have : manyW x m = true := by simp [manyW] at h ⊢; omega
      exact Fin.one hTh rfl (by simp [getT, ofValue, lightW, this]) rfl
    conv => whnf
  refine cond_split (fun h => ?_) (fun _ => ?_)
  · conv => whnf
    have : manyW x m = true := by simp [manyW] at h ⊢; omega
    exact Fin.one hTh rfl (by simp [getT, ofValue, lightW, this]) rfl
  conv => whnf
  have ht : manyW x m = false := by simp_all [manyW] <;> omega
  have hr : (x.routes.length : Int) ≤ 65536 := by simp [manyW] at ht; omega
  refine LoopOK.weak _ _ ?_ ?_ ?_ (LoopOK.ind (fun i : Nat => x.routes.length - i) (fun i => [(2, .ref (F_kit_LightWorld, 2) 0), (6, .int .i64 i)]) (fun _ => [((F_kit_LightWorld, 2), .cells T_api_World (cWld x))]) (fun i => i ≤ x.routes.length ∧ ∀ s ∈ x.routes.take i, heavyR s = false) ?_ 0 ⟨by omega, by simp⟩)
  · exact ⟨rfl, rfl, trivial⟩
  · exact ⟨rfl, trivial⟩
  · rfl
  intro i ⟨hi, hb⟩ IH
  refine LoopOK.round hTh hMx ?_
  conv => whnf
  refine cond_split (fun h => ?_) (fun hz => ?_)
  · have hlt := lt_of_dec h
    have bad : heavyR x.routes[i] = true → lightW x m = false := fun hq => by
      have h1 := any_of (p := heavyR) hlt hq
      simp only [lightW, hn, ht, h1]; rfl
    conv => whnf
    refine IndexTo.at (map_at cRteO hlt) ?_
    conv => whnf
    refine cond_split (fun c1 => ?_) (fun c1 => ?_)
    · conv => whnf
      exact Fin.one hTh rfl (by rw [bad (by simp [heavyR] at c1 ⊢; omega)]; rfl) rfl
    conv => whnf
    refine IndexTo.at (map_at cRteO hlt) ?_
    conv => whnf
    refine cond_split (fun c2 => ?_) (fun c2 => ?_)
    · conv => whnf
      exact Fin.one hTh rfl (by rw [bad (by simp [heavyR] at c2 ⊢; omega)]; rfl) rfl
    conv => whnf
    refine IndexTo.at (map_at cRteO hlt) ?_
    conv => whnf
    refine cond_split (fun c3 => ?_) (fun c3 => ?_)
    · conv => whnf
      exact Fin.one hTh rfl (by rw [bad (by simp [heavyR] at c3 ⊢; omega)]; rfl) rfl
    have good : heavyR x.routes[i] = false := by simp [heavyR] at c1 c2 c3 ⊢; omega
    conv => whnf
    refine WrapTo.i64 (by omega) ?_
    conv => whnf
    refine LoopOK.weak _ _ ?_ ?_ ?_ (IH (i + 1) (by omega) ⟨by omega, none_succ hb hlt good⟩)
    · exact ⟨rfl, rfl, trivial⟩
    · exact ⟨rfl, trivial⟩
    · rfl
  have h1 := any_not (none_all hb (le_of_dec hz))
  conv => whnf
  exact Fin.one hTh rfl (by simp only [getT, lightW, hn, ht, h1]; rfl) rfl
end Go.Proofs.YtmfolelgdpkkoaaGreatDoor
/- Worlds: where a name stands; whether worlds are the same, by the program and by the document. -/
set_option linter.unusedVariables false
set_option linter.unusedSimpArgs false
set_option maxRecDepth 10000
namespace Go.Ab
def findS (n : Nms) (s : Str) : Int × Int :=
  if 0 ≤ placeS n.stops s then (1, placeS n.stops s) else if 0 ≤ placeS n.paths s then (2, placeS n.paths s) else if 0 ≤ placeS n.doors s then (3, placeS n.doors s) else if 0 ≤ placeS n.routes s then (4, placeS n.routes s)
  else if 0 ≤ placeS n.trips s then (5, placeS n.trips s) else if 0 ≤ placeS n.hazards s then (6, placeS n.hazards s) else (0, 0)
/-- The pointers to the lists of names, kind by kind. -/
abbrev kindsP (c : List AV) : List AV := [.pp [.emp], .pp c, .pp (c.drop 1), .pp (c.drop 2), .pp (c.drop 3), .pp (c.drop 4), .pp (c.drop 5)]
/-- A world's cells from its names on. -/
abbrev cWld1 (w : Wld) : List AV := [.lst 1 (w.names.stops.map cS), .lst 1 (w.names.paths.map cS), .lst 1 (w.names.doors.map cS), .lst 1 (w.names.routes.map cS), .lst 1 (w.names.trips.map cS), .lst 1 (w.names.hazards.map cS),
  .lst 3 (w.paths.map cPthO), .lst 6 (w.doors.map cDorO), .lst 3 (w.routes.map cRteO), .lst 4 (w.trips.map cTrpO), .lst 5 (w.hazards.map cHzdO)]
end Go.Ab
namespace Go.Proofs.YtmfolelgdpkkoaaGreatDoor
open Go Go.Ab
theorem m_kinds (G : GlP) (w : Wld) : Meets Pg G F_world_kinds [.pp (cWld1 w)] [] (.agg (kindsP (cWld1 w))) [] := by
  refine meets_pure (F := fe_world_kinds) hTh hMx func_world_kinds rfl call_world_kinds rfl rfl rfl ?_
  conv => whnf
  refine ⟨by kernel_rfl, ?_⟩
  conv => whnf
  refine Fin.less [((F_world_kinds, 3), .cells T_S_string [.emp])] [(2, .ref (F_world_kinds, 2) 0)] [((F_world_kinds, 2), .cells T_A7_P_S_string (kindsP (cWld1 w)))] ⟨.refl _, trivial⟩ ⟨⟨_, rfl, .cells (.cons (.ref List.mem_cons_self) (.refl _))⟩, trivial⟩ ⟨rfl, rfl, rfl, trivial⟩ rfl ?_
  exact Fin.pure hTh [.agg (kindsP (cWld1 w))] rfl rfl rfl
theorem m_ref09_lists (G : GlP) (n : Nms) : Meets Pg G F_ref09_lists [.agg (cNms n)] [] (.lst 1 ((cNms n).map fun v => [v])) [] := by
  refine meets_pure (F := fe_ref09_lists) hTh hMx func_ref09_lists rfl call_ref09_lists rfl rfl rfl ?_
  conv => whnf
  exact Fin.one hTh rfl (rfl) rfl
end Go.Proofs.YtmfolelgdpkkoaaGreatDoor
/- Worlds: whether they are the same, by the program. -/
set_option linter.unusedVariables false
set_option linter.unusedSimpArgs false
set_option maxRecDepth 10000
namespace Go.Proofs.YtmfolelgdpkkoaaGreatDoor
open Go Go.Ab
end Go.Proofs.YtmfolelgdpkkoaaGreatDoor
/- Worlds: whether one is whole, by the program. -/
set_option linter.unusedVariables false
set_option linter.unusedSimpArgs false
set_option maxRecDepth 10000
namespace Go.Ab
def inB (n : Int) (l : Nat) : Bool := decide (0 ≤ n) && decide (n < (l : Int))
def oddS (n : Nms) (i : Int) : Bool := !inB i n.stops.length
def unlike (w : Wld) : Bool := ((w.names.paths.length : Int) != (w.paths.length : Int)) || ((w.names.doors.length : Int) != (w.doors.length : Int)) || ((w.names.routes.length : Int) != (w.routes.length : Int)) || ((w.names.trips.length : Int) != (w.trips.length : Int)) || ((w.names.hazards.length : Int) != (w.hazards.length : Int))
def oddP (n : Nms) (p : PthO) : Bool := oddS n p.a || oddS n p.b
def oddD (n : Nms) (p : DorO) : Bool := oddS n p.a || oddS n p.b
def oddR (n : Nms) (r : RteO) : Bool := r.stops.any (oddS n)
def oddT (n : Nms) (t : TrpO) : Bool := !inB t.route n.routes.length
def oddH (n : Nms) (h : HzdO) : Bool := if h.stop then oddS n h.on else !inB h.on n.paths.length
def wholeS (w : Wld) : Bool := !unlike w && !w.paths.any (oddP w.names) && !w.doors.any (oddD w.names) && !w.routes.any (oddR w.names) && !w.trips.any (oddT w.names) && !w.hazards.any (oddH w.names)
end Go.Ab
namespace Go.Proofs.YtmfolelgdpkkoaaGreatDoor
open Go Go.Ab
theorem m_whole_1 (G : GlP) (l : List Str) (i : Int) : Meets Pg G F_world_whole_1 [.lst 1 (l.map cS), .int .i64 i] [] (.bool (inB i l.length)) [] := by
  have e1 : (l.map cS).length = l.length := List.length_map _
  refine meets_pure (F := fe_world_whole_1) hTh hMx func_world_whole_1 rfl call_world_whole_1 rfl rfl rfl ?_
  conv => whnf
  refine cond_split (fun h => ?_) (fun h => ?_)
  · conv => whnf
    have e : inB i l.length = decide (i < ((l.map cS).length : Int)) := by simp only [inB, h, e1, Bool.true_and]
    exact Fin.one hTh rfl (by rw [e]; rfl) rfl
  · conv => whnf
    have e : inB i l.length = false := by simp only [inB, h, Bool.false_and]
    exact Fin.one hTh rfl (by rw [e]; rfl) rfl
abbrev fIn : AV := .fn (.func F_world_whole_1) [] []
theorem v_in (G : GlP) (l : List Str) (i : Int) : MeetsV Pg G fIn [.lst 1 (l.map cS), .int .i64 i] [] (.bool (inB i l.length)) [] := MeetsV.of (m_whole_1 G l i)
theorem m_whole_2 (G : GlP) (n : Nms) (i : Int) : Meets Pg G F_world_whole_2 [.int .i64 i, .pp [fIn], .pp (cNms n)] [] (.bool (oddS n i)) [] := by
  refine meets_pure (F := fe_world_whole_2) hTh hMx func_world_whole_2 rfl call_world_whole_2 rfl rfl rfl ?_
  conv => whnf
  refine CallTo.pure (v_in G n.stops i) ?_
  conv => whnf
  exact Fin.one hTh rfl (rfl) rfl
abbrev fOdd (n : Nms) : AV := .fn (.func F_world_whole_2) [] [.pp [fIn], .pp (cNms n)]
theorem v_odd (G : GlP) (n : Nms) (i : Int) : MeetsV Pg G (fOdd n) [.int .i64 i] [] (.bool (oddS n i)) [] := MeetsV.of (m_whole_2 G n i)
theorem m_whole_3 (G : GlP) (n : Nms) (p : PthO) : Meets Pg G F_world_whole_3 [.agg (cPthO p), .pp [fOdd n]] [] (.bool (oddP n p)) [] := by
  refine meets_pure (F := fe_world_whole_3) hTh hMx func_world_whole_3 rfl call_world_whole_3 rfl rfl rfl ?_
  conv => whnf
  refine CallTo.pure (v_odd G n p.a) ?_
  conv => whnf
  refine cond_split (fun h => ?_) (fun h => ?_)
  · conv => whnf
    exact Fin.one hTh rfl (by simp only [oddP, h, Bool.true_or]; rfl) rfl
  · conv => whnf
    refine CallTo.pure (v_odd G n p.b) ?_
    conv => whnf
    exact Fin.one hTh rfl (by simp only [oddP, h, Bool.false_or]; rfl) rfl
theorem m_whole_4 (G : GlP) (n : Nms) (p : DorO) : Meets Pg G F_world_whole_4 [.agg (cDorO p), .pp [fOdd n]] [] (.bool (oddD n p)) [] := by
  refine meets_pure (F := fe_world_whole_4) hTh hMx func_world_whole_4 rfl call_world_whole_4 rfl rfl rfl ?_
  conv => whnf
  refine CallTo.pure (v_odd G n p.a) ?_
  conv => whnf
  refine cond_split (fun h => ?_) (fun h => ?_)
  · conv => whnf
    exact Fin.one hTh rfl (by simp only [oddD, h, Bool.true_or]; rfl) rfl
  · conv => whnf
    refine CallTo.pure (v_odd G n p.b) ?_
    conv => whnf
    exact Fin.one hTh rfl (by simp only [oddD, h, Bool.false_or]; rfl) rfl
theorem m_whole_5 (G : GlP) (n : Nms) (r : RteO) (hr : r.stops.length ≤ 65536) : Meets Pg G F_world_whole_5 [.agg (cRteO r), .pp [fOdd n]] [] (.bool (oddR n r)) [] := by
  refine meets_pure (F := fe_world_whole_5) hTh hMx func_world_whole_5 rfl call_world_whole_5 rfl rfl rfl ?_
  conv => whnf
  refine CallTo.fn (m_slices_ContainsFunc_int_int G r.stops _ (oddS n) (fun i _ => v_odd G n i) rfl (by omega)) ?_
  conv => whnf
  exact Fin.one hTh rfl (rfl) rfl
theorem m_whole_6 (G : GlP) (n : Nms) (t : TrpO) : Meets Pg G F_world_whole_6 [.agg (cTrpO t), .pp [fIn], .pp (cNms n)] [] (.bool (oddT n t)) [] := by
  refine meets_pure (F := fe_world_whole_6) hTh hMx func_world_whole_6 rfl call_world_whole_6 rfl rfl rfl ?_
  conv => whnf
  refine CallTo.pure (v_in G n.routes t.route) ?_
  conv => whnf
  exact Fin.one hTh rfl (rfl) rfl
theorem m_whole_7 (G : GlP) (n : Nms) (h : HzdO) : Meets Pg G F_world_whole_7 [.agg (cHzdO h), .pp [fOdd n], .pp [fIn], .pp (cNms n)] [] (.bool (oddH n h)) [] := by
  refine meets_pure (F := fe_world_whole_7) hTh hMx func_world_whole_7 rfl call_world_whole_7 rfl rfl rfl ?_
  conv => whnf
  refine cond_split (fun hc => ?_) (fun hc => ?_)
  · have e : oddH n h = oddS n h.on := by unfold oddH; rw [if_pos hc]
    rw [e]
    conv => whnf
    refine CallTo.pure (v_odd G n h.on) ?_
    conv => whnf
    exact Fin.one hTh rfl (rfl) rfl
  · have e : oddH n h = !inB h.on n.paths.length := by unfold oddH; rw [hc]; rfl
    rw [e]
    conv => whnf
    refine CallTo.pure (v_in G n.paths h.on) ?_
    conv => whnf
    exact Fin.one hTh rfl (rfl) rfl
theorem m_world_whole (G : GlP) (w : Wld) (hw : WldFits w) : Meets Pg G F_world_whole [.agg (cWld w)] [] (.bool (wholeS w)) [] := by
  have b1 := hw.paths
  have b2 := hw.doors
  have b3 := hw.routes
  have b4 := hw.trips
  have b5 := hw.hazards
  have e0 : (w.paths.map cPthO).length = w.paths.length := List.length_map _
  have d0 : (w.names.paths.map cS).length = w.names.paths.length := List.length_map _
  have e1 : (w.doors.map cDorO).length = w.doors.length := List.length_map _
  have d1 : (w.names.doors.map cS).length = w.names.doors.length := List.length_map _
  have e2 : (w.routes.map cRteO).length = w.routes.length := List.length_map _
  have d2 : (w.names.routes.map cS).length = w.names.routes.length := List.length_map _
  have e3 : (w.trips.map cTrpO).length = w.trips.length := List.length_map _
  have d3 : (w.names.trips.map cS).length = w.names.trips.length := List.length_map _
  have e4 : (w.hazards.map cHzdO).length = w.hazards.length := List.length_map _
  have d4 : (w.names.hazards.map cS).length = w.names.hazards.length := List.length_map _
  refine meets_pure (F := { fe_world_whole with stops := [5, 6] }) hTh hMx func_world_whole rfl call_world_whole rfl rfl rfl ?_
  conv => whnf
  iterate 4
    refine cond_split (fun h => ?_) (fun _ => ?_)
    · conv => whnf
      have : unlike w = true := by simp only [unlike, Bool.or_eq_true]; simp only [d0, d1, d2, d3, d4, e0, e1, e2, e3, e4] at h; simp only [h, true_or, or_true]
      exact Fin.one hTh rfl (by simp only [wholeS, this, Bool.not_true, Bool.false_and]; rfl) rfl
    conv => whnf
  refine cond_split (fun h => ?_) (fun _ => ?_)
  · conv => whnf
    have : unlike w = true := by simp only [unlike, Bool.or_eq_true]; simp only [d0, d1, d2, d3, d4, e0, e1, e2, e3, e4] at h; simp only [h, true_or, or_true]
    exact Fin.one hTh rfl (by simp only [wholeS, this, Bool.not_true, Bool.false_and]; rfl) rfl
  have ht : unlike w = false := by simp only [d0, d1, d2, d3, d4, e0, e1, e2, e3, e4] at *; simp_all only [unlike, Bool.or_false, Bool.or_self]
  conv => whnf
  refine CodeTo.less [((F_world_whole, 3), .cells T_api_Names (cNms w.names)), ((F_world_whole, 4), .cells _ [fIn])] [(1, .ref (F_world_whole, 1) 0), (3, .pp (cNms w.names)), (4, .pp [fIn])] [((F_world_whole, 1), .cells T_api_World (cWld w))]
    ⟨.refl _, .ref List.mem_cons_self, .ref (List.mem_cons_of_mem _ List.mem_cons_self), trivial⟩ ⟨⟨_, rfl, .refl _⟩, trivial⟩ ⟨rfl, rfl, rfl, rfl, rfl, rfl, trivial⟩ rfl ?_
  refine CodeTo.go hTh hMx ?_
  conv => whnf
  refine CodeTo.less [((F_world_whole, 5), .cells _ [fOdd w.names])] [(1, .ref (F_world_whole, 1) 0), (3, .pp (cNms w.names)), (4, .pp [fIn]), (5, .pp [fOdd w.names])] [((F_world_whole, 1), .cells T_api_World (cWld w))]
    ⟨.refl _, .refl _, .refl _, .ref List.mem_cons_self, trivial⟩ ⟨⟨_, rfl, .refl _⟩, trivial⟩ ⟨rfl, rfl, rfl, trivial⟩ rfl ?_
  refine CodeTo.go hTh hMx ?_
  conv => whnf
  refine CallTo.fn (m_slices_ContainsFunc_api_PathOf_api_PathOf G w.paths _ (oddP w.names) (fun p hp => MeetsV.of (m_whole_3 G w.names p)) rfl (by omega)) ?_
  conv => whnf
  refine cond_split (fun g0 => ?_) (fun g0 => ?_)
  rotate_left
  · have e : wholeS w = false := by simp only [wholeS, ht, g0, Bool.not_false, Bool.true_and, Bool.false_and]
    rw [e]
    conv => whnf
    exact Fin.one hTh rfl (rfl) rfl
  conv => whnf
  refine CallTo.fn (m_slices_ContainsFunc_api_DoorOf_api_DoorOf G w.doors _ (oddD w.names) (fun p hp => MeetsV.of (m_whole_4 G w.names p)) rfl (by omega)) ?_
  conv => whnf
  refine cond_split (fun g1 => ?_) (fun g1 => ?_)
  rotate_left
  · have e : wholeS w = false := by simp only [wholeS, ht, g0, g1, Bool.not_false, Bool.true_and, Bool.false_and]
    rw [e]
    conv => whnf
    exact Fin.one hTh rfl (rfl) rfl
  conv => whnf
  refine CallTo.fn (m_slices_ContainsFunc_api_RouteOf_api_RouteOf G w.routes _ (oddR w.names) (fun p hp => MeetsV.of (m_whole_5 G w.names p (hw.each p hp).stops)) rfl (by omega)) ?_
  conv => whnf
  refine cond_split (fun g2 => ?_) (fun g2 => ?_)
  rotate_left
  · have e : wholeS w = false := by simp only [wholeS, ht, g0, g1, g2, Bool.not_false, Bool.true_and, Bool.false_and]
    rw [e]
    conv => whnf
    exact Fin.one hTh rfl (rfl) rfl
  conv => whnf
  refine CallTo.fn (m_slices_ContainsFunc_api_TripOf_api_TripOf G w.trips _ (oddT w.names) (fun p hp => MeetsV.of (m_whole_6 G w.names p)) rfl (by omega)) ?_
  conv => whnf
  refine cond_split (fun g3 => ?_) (fun g3 => ?_)
  rotate_left
  · have e : wholeS w = false := by simp only [wholeS, ht, g0, g1, g2, g3, Bool.not_false, Bool.true_and, Bool.false_and]
    rw [e]
    conv => whnf
    exact Fin.one hTh rfl (rfl) rfl
  conv => whnf
  refine CallTo.fn (m_slices_ContainsFunc_api_HazardOf_api_HazardOf G w.hazards _ (oddH w.names) (fun p hp => MeetsV.of (m_whole_7 G w.names p)) rfl (by omega)) ?_
  conv => whnf
  have e : wholeS w = !w.hazards.any (oddH w.names) := by simp only [wholeS, ht, g0, g1, g2, g3, Bool.not_false, Bool.true_and]
  rw [e]
  exact Fin.one hTh rfl (rfl) rfl
end Go.Proofs.YtmfolelgdpkkoaaGreatDoor
