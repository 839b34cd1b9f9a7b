/- What the statements share: bounding, copying, comparing sheets and worlds. -/
import Derived.Test.YtelpibkbcljdlaaGreatDoorA7
set_option linter.unusedVariables false
set_option linter.unusedSimpArgs false
set_option maxRecDepth 10000
namespace Go.Ab
def lightR (r : Rte) (m : Int) : Bool := decide ((r.stops.length : Int) ≤ m) && decide ((r.rides.length : Int) ≤ m) && decide ((r.stays.length : Int) ≤ m)
def manyS (x : Sht) (m : Int) : Bool := decide (m < (x.stops.length : Int)) || decide (m < (x.paths.length : Int)) || decide (m < (x.doors.length : Int)) || decide (m < (x.routes.length : Int)) || decide (m < (x.trips.length : Int)) || decide (m < (x.hazards.length : Int))
def lightS (x : Sht) (m : Int) : Bool := !manyS x m && !(x.routes.any fun r => !lightR r 60)
theorem rte_ext {p q : Rte} (h1 : p.name = q.name) (h2 : p.stops = q.stops) (h3 : p.rides = q.rides) (h4 : p.stays = q.stays) : p = q := by
  cases p; cases q; simp_all
theorem sht_ext {p q : Sht} (h1 : p.hor = q.hor) (h2 : p.stops = q.stops) (h3 : p.paths = q.paths) (h4 : p.doors = q.doors) (h5 : p.routes = q.routes) (h6 : p.trips = q.trips) (h7 : p.hazards = q.hazards) : p = q := by
  cases p; cases q; simp_all
end Go.Ab
namespace Go.Proofs.YtelpibkbcljdlaaGreatDoor
open Go Go.Ab
theorem m_kit_LightRoute (G : GlP) (r : Rte) (m : Int) : Meets Pg G F_kit_LightRoute [.agg (cRte r), .int .i64 m] [] (.bool (lightR r m)) [] := by
  have e1 : (r.stops.map cS).length = r.stops.length := List.length_map _
  have e2 : (r.rides.map cI).length = r.rides.length := List.length_map _
  have e3 : (r.stays.map cI).length = r.stays.length := List.length_map _
  refine meets_pure (F := fe_kit_LightRoute) hTh hMx func_kit_LightRoute rfl call_kit_LightRoute rfl rfl rfl ?_
  conv => whnf
  refine cond_split (fun h1 => ?_) (fun h1 => ?_)
  · conv => whnf
    refine cond_split (fun h2 => ?_) (fun h2 => ?_)
    · conv => whnf
      simp only [e1, e2, e3] at h1 h2
      have e : lightR r m = decide (((r.stays.map cI).length : Int) ≤ m) := by simp only [lightR, h1, h2, e3, Bool.true_and]
      exact Fin.one hTh rfl (by rw [e]; rfl) rfl
    · conv => whnf
      simp only [e1, e2, e3] at h1 h2
      have e : lightR r m = false := by simp only [lightR, h1, h2, Bool.and_false, Bool.false_and]
      exact Fin.one hTh rfl (by rw [e]; rfl) rfl
  · conv => whnf
    simp only [e1, e2, e3] at h1
    have e : lightR r m = false := by simp only [lightR, h1, Bool.false_and]
    exact Fin.one hTh rfl (by rw [e]; rfl) rfl
theorem m_kit_LightSheet (G : GlP) (x : Sht) (m : Int) (hm : m ≤ 65536) : Meets Pg G F_kit_LightSheet [.agg (cSht x), .int .i64 m] [] (.bool (lightS x m)) [] := by
  refine meets_pure (F := fe_kit_LightSheet) hTh hMx func_kit_LightSheet rfl call_kit_LightSheet rfl rfl rfl ?_
  conv => whnf
  iterate 5
    refine cond_split (fun h => ?_) (fun _ => ?_)
    · conv => whnf
      have : manyS x m = true := by simp [manyS] at h ⊢; omega
      exact Fin.one hTh rfl (by simp [getT, ofValue, lightS, this]) rfl
    conv => whnf
  refine cond_split (fun h => ?_) (fun _ => ?_)
  · conv => whnf
    have : manyS x m = true := by simp [manyS] at h ⊢; omega
    exact Fin.one hTh rfl (by simp [getT, ofValue, lightS, this]) rfl
  conv => whnf
  have ht : manyS x m = false := by simp_all [manyS] <;> omega
  have hr : (x.routes.length : Int) ≤ 65536 := by simp [manyS] at ht; omega
  refine LoopOK.weak _ _ ?_ ?_ ?_ (LoopOK.ind (fun i : Nat => x.routes.length - i) (fun i => [(2, .ref (F_kit_LightSheet, 2) 0), (5, .int .i64 i)]) (fun _ => [((F_kit_LightSheet, 2), .cells T_api_Sheet (cSht x))]) (fun i => i ≤ x.routes.length ∧ ∀ s ∈ x.routes.take i, (!lightR s 60) = false) ?_ 0 ⟨by omega, by simp⟩)
  · exact ⟨rfl, rfl, trivial⟩
  · exact ⟨rfl, trivial⟩
  · rfl
  intro i ⟨hi, hb⟩ IH
  refine LoopOK.round hTh hMx ?_
  conv => whnf
  refine cond_split (fun h => ?_) (fun hz => ?_)
  · have hlt := lt_of_dec h
    conv => whnf
    refine IndexTo.at (map_at cRte hlt) ?_
    conv => whnf
    refine CallTo.fn (m_kit_LightRoute G _ _) ?_
    conv => whnf
    refine cond_split (fun he => ?_) (fun he => ?_)
    · conv => whnf
      have h1 := any_of (p := fun s => !lightR s 60) hlt he
      exact Fin.one hTh rfl (by simp only [getT, lightS, ht, h1]; rfl) rfl
    · conv => whnf
      refine WrapTo.i64 (by omega) ?_
      conv => whnf
      refine LoopOK.weak _ _ ?_ ?_ ?_ (IH (i + 1) (by omega) ⟨by omega, none_succ hb hlt he⟩)
      · exact ⟨rfl, rfl, trivial⟩
      · exact ⟨rfl, trivial⟩
      · rfl
  have h1 := any_not (none_all hb (le_of_dec hz))
  conv => whnf
  exact Fin.one hTh rfl (by simp only [getT, lightS, ht, h1]; rfl) rfl
theorem m_kit_OwnRoute (G : GlP) (r : Rte) (hr : RteFits r) : Meets Pg G F_kit_OwnRoute [.agg (cRte r)] [] (.agg (cRte r)) [] := by
  have h1 := hr.stops
  have h2 := hr.rides
  have h3 := hr.stays
  refine meets_pure (F := fe_kit_OwnRoute) hTh hMx func_kit_OwnRoute rfl call_kit_OwnRoute rfl rfl rfl ?_
  conv => whnf
  refine CallTo.fn (m_kit_Own_string G r.stops (by omega)) ?_
  conv => whnf
  refine CallTo.fn (m_kit_Own_int64 G r.rides (by omega)) ?_
  conv => whnf
  refine CallTo.fn (m_kit_Own_int64 G r.stays (by omega)) ?_
  conv => whnf
  refine ⟨by kernel_rfl, ?_⟩
  conv => whnf
  exact Fin.pure hTh [.agg (cRte r)] rfl rfl rfl
theorem m_kit_OwnSheet (G : GlP) (x : Sht) (hx : ShtFits x) : Meets Pg G F_kit_OwnSheet [.agg (cSht x)] [] (.agg (cSht x)) [] := by
  have b0 := hx.stops
  have b1 := hx.paths
  have b2 := hx.doors
  have b3 := hx.routes
  have b4 := hx.trips
  have b5 := hx.hazards
  refine meets_pure (F := { fe_kit_OwnSheet with stops := [6] }) hTh hMx func_kit_OwnSheet rfl call_kit_OwnSheet rfl rfl rfl ?_
  conv => whnf
  refine CallTo.fn (m_kit_Own_string G x.stops (by omega)) ?_
  conv => whnf
  refine CallTo.fn (m_kit_Own_api_Path G x.paths (by omega)) ?_
  conv => whnf
  refine CallTo.fn (m_kit_Own_api_Door G x.doors (by omega)) ?_
  conv => whnf
  refine CallTo.fn (m_kit_Own_api_Trip G x.trips (by omega)) ?_
  conv => whnf
  refine CallTo.fn (m_kit_Own_api_Hazard G x.hazards (by omega)) ?_
  conv => whnf
  refine ⟨by kernel_rfl, ?_⟩
  conv => whnf
  refine LoopOK.conv (Conv.empOwnBox (F_kit_OwnSheet, 3) 4 rfl rfl (F_kit_OwnSheet, 39) rfl T_api_Route 4) ?_
  refine LoopOK.weak _ _ ?_ ?_ ?_ (LoopOK.ind (fun i : Nat => x.routes.length - i) (fun i => [(1, .ref (F_kit_OwnSheet, 1) 0), (2, .ref (F_kit_OwnSheet, 2) 0), (3, .ref (F_kit_OwnSheet, 3) 0), (4, .int .i64 i)]) (fun i => [((F_kit_OwnSheet, 1), .cells T_api_Sheet (cSht x)), ((F_kit_OwnSheet, 2), .cells T_api_Sheet (zcells ty_api_Sheet)), ((F_kit_OwnSheet, 3), .cells T_api_Sheet [.int .i64 x.hor, .lst 1 (x.stops.map cS), .lst 4 (x.paths.map cPth), .lst 7 (x.doors.map cDor), (.own (F_kit_OwnSheet, 39) i), .lst 5 (x.trips.map cTrp), .lst 5 (x.hazards.map cHzd)]), ((F_kit_OwnSheet, 39), .row T_api_Route 4 (((x.routes.take i).map id).map cRte))]) (fun i => i ≤ x.routes.length) ?_ 0 (by omega))
  · exact ⟨rfl, rfl, rfl, rfl, trivial⟩
  · exact ⟨rfl, rfl, rfl, rfl, trivial⟩
  · exact chk_mk ⟨rfl, rfl, rfl, rfl, trivial⟩ ⟨rfl, rfl, rfl, cloX_row (l := (0, 0)) (e := 0) (sz := 0) (by rw [List.map_map]; exact Clo.map (fun y_ => fRte (id y_)) _), trivial⟩ rfl
  intro i1 hi1 IH
  refine LoopOK.round hTh hMx ?_
  conv => whnf
  refine cond_split (fun h => ?_) (fun hz1 => ?_)
  · have hlt := lt_of_dec h
    conv => whnf
    refine IndexTo.at (map_at cRte hlt) ?_
    conv => whnf
    refine CallTo.fn (m_kit_OwnRoute G _ (hx.each _ (List.getElem_mem hlt))) ?_
    conv => whnf
    refine ⟨by simp only [List.length_map, List.length_take]; omega, by simp only [List.length_cons, List.length_nil]; omega, ?_⟩
    conv => whnf
    refine ⟨by kernel_rfl, ?_⟩
    conv => whnf
    refine WrapTo.i64 (by omega) ?_
    conv => whnf
    refine LoopOK.weak _ _ ?_ ?_ ?_ (IH (i1 + 1) (by omega) (by omega))
    · exact ⟨rfl, rfl, rfl, rfl, trivial⟩
    · exact ⟨rfl, rfl, rfl, congrArg (fun z => some (ABox.row T_api_Route 4 z)) (map_succ2 hlt), trivial⟩
    · exact chk_mk ⟨rfl, rfl, rfl, rfl, trivial⟩ ⟨rfl, rfl, rfl, cloX_row (l := (0, 0)) (e := 0) (sz := 0) (by rw [List.map_map]; exact Clo.map (fun y_ => fRte (id y_)) _), trivial⟩ rfl
  have hge1 := le_of_dec hz1
  conv => whnf
  rw [List.take_of_length_le hge1]
  refine CodeTo.less [((F_kit_OwnSheet, 39), .row T_api_Route 4 ((x.routes.map id).map cRte))] [(1, .ref (F_kit_OwnSheet, 1) 0), (2, .ref (F_kit_OwnSheet, 2) 0), (3, .ref (F_kit_OwnSheet, 3) 0)] [((F_kit_OwnSheet, 1), .cells T_api_Sheet (cSht x)), ((F_kit_OwnSheet, 2), .cells T_api_Sheet (zcells ty_api_Sheet)), ((F_kit_OwnSheet, 3), .cells T_api_Sheet [.int .i64 x.hor, .lst 1 (x.stops.map cS), .lst 4 (x.paths.map cPth), .lst 7 (x.doors.map cDor), (.lst 4 ((x.routes.map id).map cRte)), .lst 5 (x.trips.map cTrp), .lst 5 (x.hazards.map cHzd)])] ⟨.refl _, .refl _, .refl _, trivial⟩ ⟨⟨_, rfl, .refl _⟩, ⟨_, rfl, .refl _⟩, ⟨_, rfl, .cells (.cons (.refl _) (.cons (.refl _) (.cons (.refl _) (.cons (.refl _) (.cons (.own List.mem_cons_self (by simp only [List.length_map]; omega)) (.refl _))))))⟩, trivial⟩ ⟨rfl, (by rw [List.map_map]; exact Clo.map (fun y_ => fRte (id y_)) _), rfl, trivial⟩ (rfl) ?_
  rw [List.map_id]
  refine CodeTo.go hTh hMx ?_
  conv => whnf
  exact Fin.pure hTh [.agg (cSht x)] rfl rfl rfl
theorem m_kit_Route (G : GlP) (p q : Rte) (hp : RteFits p) : Meets Pg G F_kit_Route [.agg (cRte p), .agg (cRte q)] [] (.bool (decide (p = q))) [] := by
  have b1 := hp.stops
  have b2 := hp.rides
  have b3 := hp.stays
  refine meets_pure (F := fe_kit_Route) hTh hMx func_kit_Route rfl call_kit_Route rfl rfl rfl ?_
  conv => whnf
  refine cond_split (fun h1 => ?_) (fun h1 => ?_)
  · conv => whnf
    refine CallTo.fn (m_kit_Same_string G p.stops q.stops (by omega)) ?_
    conv => whnf
    refine cond_split (fun h2 => ?_) (fun h2 => ?_)
    · conv => whnf
      refine CallTo.fn (m_kit_Same_int64 G p.rides q.rides (by omega)) ?_
      conv => whnf
      refine cond_split (fun h3 => ?_) (fun h3 => ?_)
      · conv => whnf
        refine CallTo.fn (m_kit_Same_int64 G p.stays q.stays (by omega)) ?_
        conv => whnf
        exact Fin.one hTh rfl (congrArg AV.bool (decide_eq_decide.2 ⟨fun h4 => rte_ext (by simpa using h1) (of_decide_eq_true h2) (of_decide_eq_true h3) h4, fun e => by rw [e]⟩)) rfl
      · conv => whnf
        exact Fin.one hTh rfl (AV.no (fun e => of_decide_eq_false h3 (by rw [e]))) rfl
    · conv => whnf
      exact Fin.one hTh rfl (AV.no (fun e => of_decide_eq_false h2 (by rw [e]))) rfl
  · conv => whnf
    exact Fin.one hTh rfl (AV.no (fun e => by rw [e] at h1; simp at h1)) rfl
theorem m_kit_Sheet (G : GlP) (x y : Sht) (hx : ShtFits x) : Meets Pg G F_kit_Sheet [.agg (cSht x), .agg (cSht y)] [] (.bool (decide (x = y))) [] := by
  have b0 := hx.stops
  have b1 := hx.paths
  have b2 := hx.doors
  have b3 := hx.routes
  have b4 := hx.trips
  have b5 := hx.hazards
  refine meets_pure (F := fe_kit_Sheet) hTh hMx func_kit_Sheet rfl call_kit_Sheet rfl rfl rfl ?_
  conv => whnf
  refine cond_split (fun h0 => ?_) (fun h0 => ?_)
  · conv => whnf
    exact Fin.one hTh rfl (AV.no (fun e => by rw [e] at h0; simp at h0)) rfl
  conv => whnf
  refine CallTo.fn (m_kit_Same_string G x.stops y.stops (by omega)) ?_
  conv => whnf
  refine cond_split (fun h1 => ?_) (fun h1 => ?_)
  · conv => whnf
    exact Fin.one hTh rfl (AV.no (fun e => dec_no h1 (by rw [e]))) rfl
  conv => whnf
  refine CallTo.fn (m_kit_Same_api_Path G x.paths y.paths (by omega)) ?_
  conv => whnf
  refine cond_split (fun h2 => ?_) (fun h2 => ?_)
  · conv => whnf
    exact Fin.one hTh rfl (AV.no (fun e => dec_no h2 (by rw [e]))) rfl
  conv => whnf
  refine CallTo.fn (m_kit_Same_api_Door G x.doors y.doors (by omega)) ?_
  conv => whnf
  refine cond_split (fun h3 => ?_) (fun h3 => ?_)
  · conv => whnf
    exact Fin.one hTh rfl (AV.no (fun e => dec_no h3 (by rw [e]))) rfl
  conv => whnf
  refine CallTo.fn (m_kit_Same_api_Trip G x.trips y.trips (by omega)) ?_
  conv => whnf
  refine cond_split (fun h4 => ?_) (fun h4 => ?_)
  · conv => whnf
    exact Fin.one hTh rfl (AV.no (fun e => dec_no h4 (by rw [e]))) rfl
  conv => whnf
  refine CallTo.fn (m_kit_Same_api_Hazard G x.hazards y.hazards (by omega)) ?_
  conv => whnf
  refine cond_split (fun h5 => ?_) (fun h5 => ?_)
  · conv => whnf
    exact Fin.one hTh rfl (AV.no (fun e => dec_no h5 (by rw [e]))) rfl
  conv => whnf
  refine cond_split (fun h6 => ?_) (fun h6 => ?_)
  · conv => whnf
    exact Fin.one hTh rfl (AV.no (fun e => by rw [e] at h6; simp at h6)) rfl
  have hlen := len_of_dec h6
  conv => whnf
  refine LoopOK.weak _ _ ?_ ?_ ?_ (LoopOK.ind (fun i : Nat => x.routes.length - i) (fun i => [(2, .ref (F_kit_Sheet, 2) 0), (3, .ref (F_kit_Sheet, 3) 0), (5, .int .i64 i)]) (fun _ => [((F_kit_Sheet, 2), .cells T_api_Sheet (cSht x)), ((F_kit_Sheet, 3), .cells T_api_Sheet (cSht y))]) (fun i => i ≤ x.routes.length ∧ x.routes.take i = y.routes.take i) ?_ 0 ⟨by omega, by simp⟩)
  · exact ⟨rfl, rfl, rfl, trivial⟩
  · exact ⟨rfl, rfl, trivial⟩
  · rfl
  intro i ⟨hi, hb⟩ IH
  refine LoopOK.round hTh hMx ?_
  conv => whnf
  refine cond_split (fun h => ?_) (fun hz => ?_)
  · have hlt := lt_of_dec h
    conv => whnf
    refine IndexTo.at (map_at cRte hlt) ?_
    conv => whnf
    refine IndexTo.at (map_at cRte (show i < y.routes.length by omega)) ?_
    conv => whnf
    refine CallTo.fn (m_kit_Route G _ _ (hx.each _ (List.getElem_mem hlt))) ?_
    conv => whnf
    refine ⟨by kernel_rfl, ?_⟩
    conv => whnf
    refine cond_split (fun he => ?_) (fun he => ?_)
    · conv => whnf
      exact Fin.one hTh rfl (AV.no (fun e => ne_of_get hlt (by omega) (dec_no he) (by rw [e]))) rfl
    · conv => whnf
      refine WrapTo.i64 (by omega) ?_
      conv => whnf
      refine LoopOK.weak _ _ ?_ ?_ ?_ (IH (i + 1) (by omega) ⟨by omega, take_eq_succ hb hlt (by omega) (dec_yes he)⟩)
      · exact ⟨rfl, rfl, rfl, trivial⟩
      · exact ⟨rfl, rfl, trivial⟩
      · rfl
  · have hge := le_of_dec hz
    conv => whnf
    exact Fin.one hTh rfl (AV.yes (sht_ext (by simpa using h0) (dec_yes h1) (dec_yes h2) (dec_yes h3) (take_eq_all hb hge hlen) (dec_yes h4) (dec_yes h5))) rfl
end Go.Proofs.YtelpibkbcljdlaaGreatDoor
/- What the statements share, of worlds: bounding, copying, comparing. -/
set_option linter.unusedVariables false
set_option linter.unusedSimpArgs false
set_option maxRecDepth 10000
namespace Go.Ab
structure RteOFits (r : RteO) : Prop where
  stops : r.stops.length ≤ 65536
  rides : r.rides.length ≤ 65536
  stays : r.stays.length ≤ 65536
structure NmsFits (n : Nms) : Prop where
  stops : n.stops.length ≤ 65536
  paths : n.paths.length ≤ 65536
  doors : n.doors.length ≤ 65536
  routes : n.routes.length ≤ 65536
  trips : n.trips.length ≤ 65536
  hazards : n.hazards.length ≤ 65536
structure WldFits (w : Wld) : Prop where
  names : NmsFits w.names
  paths : w.paths.length ≤ 65536
  doors : w.doors.length ≤ 65536
  routes : w.routes.length ≤ 65536
  trips : w.trips.length ≤ 65536
  hazards : w.hazards.length ≤ 65536
  each : ∀ r ∈ w.routes, RteOFits r
def heavyR (r : RteO) : Bool := decide (60 < r.stops.length) || decide (60 < r.rides.length) || decide (60 < r.stays.length)
def manyN (n : Nms) (m : Int) : Bool := decide (m < (n.stops.length : Int)) || decide (m < (n.paths.length : Int)) || decide (m < (n.doors.length : Int)) || decide (m < (n.routes.length : Int)) || decide (m < (n.trips.length : Int)) || decide (m < (n.hazards.length : Int))
def manyW (x : Wld) (m : Int) : Bool := decide (m < (x.paths.length : Int)) || decide (m < (x.doors.length : Int)) || decide (m < (x.routes.length : Int)) || decide (m < (x.trips.length : Int)) || decide (m < (x.hazards.length : Int))
def lightW (x : Wld) (m : Int) : Bool := !manyN x.names m && !manyW x m && !(x.routes.any heavyR)
theorem rteO_ext {p q : RteO} (h2 : p.stops = q.stops) (h3 : p.rides = q.rides) (h4 : p.stays = q.stays) : p = q := by
  cases p; cases q; simp_all
theorem nms_ext {p q : Nms} (h1 : p.stops = q.stops) (h2 : p.paths = q.paths) (h3 : p.doors = q.doors) (h4 : p.routes = q.routes) (h5 : p.trips = q.trips) (h6 : p.hazards = q.hazards) : p = q := by
  cases p; cases q; simp_all
theorem wld_ext {p q : Wld} (h1 : p.hor = q.hor) (h2 : p.names = q.names) (h3 : p.paths = q.paths) (h4 : p.doors = q.doors) (h5 : p.routes = q.routes) (h6 : p.trips = q.trips) (h7 : p.hazards = q.hazards) : p = q := by
  cases p; cases q; simp_all
end Go.Ab
namespace Go.Proofs.YtelpibkbcljdlaaGreatDoor
open Go Go.Ab
theorem m_kit_LightWorld (G : GlP) (x : Wld) (m : Int) (hm : m ≤ 65536) : Meets Pg G F_kit_LightWorld [.agg (cWld x), .int .i64 m] [] (.bool (lightW x m)) [] := by
  refine meets_pure (F := fe_kit_LightWorld) hTh hMx func_kit_LightWorld rfl call_kit_LightWorld rfl rfl rfl ?_
  conv => whnf
  iterate 5
    refine cond_split (fun h => ?_) (fun _ => ?_)
    · conv => whnf
      have : manyN x.names m = true := by simp [manyN] at h ⊢; omega
      exact Fin.one hTh rfl (by simp [getT, ofValue, lightW, this]) rfl
    conv => whnf
  refine cond_split (fun h => ?_) (fun _ => ?_)
  · conv => whnf
    have : manyN x.names m = true := by simp [manyN] at h ⊢; omega
    exact Fin.one hTh rfl (by simp [getT, ofValue, lightW, this]) rfl
  have hn : manyN x.names m = false := by simp_all [manyN] <;> omega
  conv => whnf
  iterate 4
    refine cond_split (fun h => ?_) (fun _ => ?_)
    · conv => whnf
      have : manyW x m = true := by simp [manyW] at h ⊢; omega
      exact Fin.one hTh rfl (by simp [getT, ofValue, lightW, this]) rfl
    conv => whnf
  refine cond_split (fun h => ?_) (fun _ => ?_)
  · conv => whnf
    have : manyW x m = true := by simp [manyW] at h ⊢; omega
    exact Fin.one hTh rfl (by simp [getT, ofValue, lightW, this]) rfl
  conv => whnf
  have ht : manyW x m = false := by simp_all [manyW] <;> omega
  have hr : (x.routes.length : Int) ≤ 65536 := by simp [manyW] at ht; omega
  refine LoopOK.weak _ _ ?_ ?_ ?_ (LoopOK.ind (fun i : Nat => x.routes.length - i) (fun i => [(2, .ref (F_kit_LightWorld, 2) 0), (6, .int .i64 i)]) (fun _ => [((F_kit_LightWorld, 2), .cells T_api_World (cWld x))]) (fun i => i ≤ x.routes.length ∧ ∀ s ∈ x.routes.take i, heavyR s = false) ?_ 0 ⟨by omega, by simp⟩)
  · exact ⟨rfl, rfl, trivial⟩
  · exact ⟨rfl, trivial⟩
  · rfl
  intro i ⟨hi, hb⟩ IH
  refine LoopOK.round hTh hMx ?_
  conv => whnf
  refine cond_split (fun h => ?_) (fun hz => ?_)
  · have hlt := lt_of_dec h
    have bad : heavyR x.routes[i] = true → lightW x m = false := fun hq => by
      have h1 := any_of (p := heavyR) hlt hq
      simp only [lightW, hn, ht, h1]; rfl
    conv => whnf
    refine IndexTo.at (map_at cRteO hlt) ?_
    conv => whnf
    refine cond_split (fun c1 => ?_) (fun c1 => ?_)
    · conv => whnf
      exact Fin.one hTh rfl (by rw [bad (by simp [heavyR] at c1 ⊢; omega)]; rfl) rfl
    conv => whnf
    refine IndexTo.at (map_at cRteO hlt) ?_
    conv => whnf
    refine cond_split (fun c2 => ?_) (fun c2 => ?_)
    · conv => whnf
      exact Fin.one hTh rfl (by rw [bad (by simp [heavyR] at c2 ⊢; omega)]; rfl) rfl
    conv => whnf
    refine IndexTo.at (map_at cRteO hlt) ?_
    conv => whnf
    refine cond_split (fun c3 => ?_) (fun c3 => ?_)
    · conv => whnf
      exact Fin.one hTh rfl (by rw [bad (by simp [heavyR] at c3 ⊢; omega)]; rfl) rfl
    have good : heavyR x.routes[i] = false := by simp [heavyR] at c1 c2 c3 ⊢; omega
    conv => whnf
    refine WrapTo.i64 (by omega) ?_
    conv => whnf
    refine LoopOK.weak _ _ ?_ ?_ ?_ (IH (i + 1) (by omega) ⟨by omega, none_succ hb hlt good⟩)
    · exact ⟨rfl, rfl, trivial⟩
    · exact ⟨rfl, trivial⟩
    · rfl
  have h1 := any_not (none_all hb (le_of_dec hz))
  conv => whnf
  exact Fin.one hTh rfl (by simp only [getT, lightW, hn, ht, h1]; rfl) rfl
theorem m_kit_OwnWorld (G : GlP) (x : Wld) (hx : WldFits x) : Meets Pg G F_kit_OwnWorld [.agg (cWld x)] [] (.agg (cWld x)) [] := by
  have n0 := hx.names.stops
  have n1 := hx.names.paths
  have n2 := hx.names.doors
  have n3 := hx.names.routes
  have n4 := hx.names.trips
  have n5 := hx.names.hazards
  have b1 := hx.paths
  have b2 := hx.doors
  have b3 := hx.routes
  have b4 := hx.trips
  have b5 := hx.hazards
  refine meets_pure (F := { fe_kit_OwnWorld with stops := [9] }) hTh hMx func_kit_OwnWorld rfl call_kit_OwnWorld rfl rfl rfl ?_
  conv => whnf
  refine CallTo.fn (m_kit_Own_api_PathOf G x.paths (by omega)) ?_
  conv => whnf
  refine CallTo.fn (m_kit_Own_api_DoorOf G x.doors (by omega)) ?_
  conv => whnf
  refine CallTo.fn (m_kit_Own_api_TripOf G x.trips (by omega)) ?_
  conv => whnf
  refine CallTo.fn (m_kit_Own_api_HazardOf G x.hazards (by omega)) ?_
  conv => whnf
  refine ⟨by kernel_rfl, ?_⟩
  conv => whnf
  refine CallTo.fn (m_kit_Own_string G x.names.stops (by omega)) ?_
  conv => whnf
  refine CallTo.fn (m_kit_Own_string G x.names.paths (by omega)) ?_
  conv => whnf
  refine CallTo.fn (m_kit_Own_string G x.names.doors (by omega)) ?_
  conv => whnf
  refine CallTo.fn (m_kit_Own_string G x.names.routes (by omega)) ?_
  conv => whnf
  refine CallTo.fn (m_kit_Own_string G x.names.trips (by omega)) ?_
  conv => whnf
  refine CallTo.fn (m_kit_Own_string G x.names.hazards (by omega)) ?_
  conv => whnf
  refine ⟨by kernel_rfl, ?_⟩
  conv => whnf
  refine LoopOK.conv (Conv.empOwnBox (F_kit_OwnWorld, 4) 9 rfl rfl (F_kit_OwnWorld, 69) rfl T_api_RouteOf 3) ?_
  refine LoopOK.weak _ _ ?_ ?_ ?_ (LoopOK.ind (fun i : Nat => x.routes.length - i) (fun i => [(1, .ref (F_kit_OwnWorld, 1) 0), (2, .ref (F_kit_OwnWorld, 2) 0), (4, .ref (F_kit_OwnWorld, 4) 0), (5, .int .i64 i)]) (fun i => [((F_kit_OwnWorld, 1), .cells T_api_World (cWld x)), ((F_kit_OwnWorld, 2), .cells T_api_World (zcells ty_api_World)), ((F_kit_OwnWorld, 4), .cells T_api_World [.int .i64 x.hor, .lst 1 (x.names.stops.map cS), .lst 1 (x.names.paths.map cS), .lst 1 (x.names.doors.map cS), .lst 1 (x.names.routes.map cS), .lst 1 (x.names.trips.map cS), .lst 1 (x.names.hazards.map cS), .lst 3 (x.paths.map cPthO), .lst 6 (x.doors.map cDorO), (.own (F_kit_OwnWorld, 69) i), .lst 4 (x.trips.map cTrpO), .lst 5 (x.hazards.map cHzdO)]), ((F_kit_OwnWorld, 69), .row T_api_RouteOf 3 (((x.routes.take i).map id).map cRteO))]) (fun i => i ≤ x.routes.length) ?_ 0 (by omega))
  · exact ⟨rfl, rfl, rfl, rfl, trivial⟩
  · exact ⟨rfl, rfl, rfl, rfl, trivial⟩
  · exact chk_mk ⟨rfl, rfl, rfl, rfl, trivial⟩ ⟨rfl, rfl, rfl, cloX_row (l := (0, 0)) (e := 0) (sz := 0) (by rw [List.map_map]; exact Clo.map (fun y_ => fRteO (id y_)) _), trivial⟩ rfl
  intro i1 hi1 IH
  refine LoopOK.round hTh hMx ?_
  conv => whnf
  refine cond_split (fun h => ?_) (fun hz1 => ?_)
  · have hlt := lt_of_dec h
    have r0 := hx.each _ (List.getElem_mem hlt)
    have r1 := r0.stops
    have r2 := r0.rides
    have r3 := r0.stays
    conv => whnf
    refine IndexTo.at (map_at cRteO hlt) ?_
    conv => whnf
    refine CallTo.fn (m_kit_Own_int G _ (by omega)) ?_
    conv => whnf
    refine CallTo.fn (m_kit_Own_int64 G _ (by omega)) ?_
    conv => whnf
    refine CallTo.fn (m_kit_Own_int64 G _ (by omega)) ?_
    conv => whnf
    refine ⟨by simp only [List.length_map, List.length_take]; omega, by simp only [List.length_cons, List.length_nil]; omega, ?_⟩
    conv => whnf
    refine ⟨by kernel_rfl, ?_⟩
    conv => whnf
    refine WrapTo.i64 (by omega) ?_
    conv => whnf
    refine LoopOK.weak _ _ ?_ ?_ ?_ (IH (i1 + 1) (by omega) (by omega))
    · exact ⟨rfl, rfl, rfl, rfl, trivial⟩
    · exact ⟨rfl, rfl, rfl, congrArg (fun z => some (ABox.row T_api_RouteOf 3 z)) (map_succ2 hlt), trivial⟩
    · exact chk_mk ⟨rfl, rfl, rfl, rfl, trivial⟩ ⟨rfl, rfl, rfl, cloX_row (l := (0, 0)) (e := 0) (sz := 0) (by rw [List.map_map]; exact Clo.map (fun y_ => fRteO (id y_)) _), trivial⟩ rfl
  have hge1 := le_of_dec hz1
  conv => whnf
  rw [List.take_of_length_le hge1]
  refine CodeTo.less [((F_kit_OwnWorld, 69), .row T_api_RouteOf 3 ((x.routes.map id).map cRteO))] [(1, .ref (F_kit_OwnWorld, 1) 0), (2, .ref (F_kit_OwnWorld, 2) 0), (4, .ref (F_kit_OwnWorld, 4) 0)] [((F_kit_OwnWorld, 1), .cells T_api_World (cWld x)), ((F_kit_OwnWorld, 2), .cells T_api_World (zcells ty_api_World)), ((F_kit_OwnWorld, 4), .cells T_api_World [.int .i64 x.hor, .lst 1 (x.names.stops.map cS), .lst 1 (x.names.paths.map cS), .lst 1 (x.names.doors.map cS), .lst 1 (x.names.routes.map cS), .lst 1 (x.names.trips.map cS), .lst 1 (x.names.hazards.map cS), .lst 3 (x.paths.map cPthO), .lst 6 (x.doors.map cDorO), (.lst 3 ((x.routes.map id).map cRteO)), .lst 4 (x.trips.map cTrpO), .lst 5 (x.hazards.map cHzdO)])] ⟨.refl _, .refl _, .refl _, trivial⟩ ⟨⟨_, rfl, .refl _⟩, ⟨_, rfl, .refl _⟩, ⟨_, rfl, .cells (.cons (.refl _) (.cons (.refl _) (.cons (.refl _) (.cons (.refl _) (.cons (.refl _) (.cons (.refl _) (.cons (.refl _) (.cons (.refl _) (.cons (.refl _) (.cons (.own List.mem_cons_self (by simp only [List.length_map]; omega)) (.refl _)))))))))))⟩, trivial⟩ ⟨rfl, (by rw [List.map_map]; exact Clo.map (fun y_ => fRteO (id y_)) _), rfl, trivial⟩ (rfl) ?_
  rw [List.map_id]
  refine CodeTo.go hTh hMx ?_
  conv => whnf
  exact Fin.pure hTh [.agg (cWld x)] rfl rfl rfl
theorem m_kit_World (G : GlP) (x y : Wld) (hx : WldFits x) : Meets Pg G F_kit_World [.agg (cWld x), .agg (cWld y)] [] (.bool (decide (x = y))) [] := by
  have n0 := hx.names.stops
  have n1 := hx.names.paths
  have n2 := hx.names.doors
  have n3 := hx.names.routes
  have n4 := hx.names.trips
  have n5 := hx.names.hazards
  have b1 := hx.paths
  have b2 := hx.doors
  have b3 := hx.routes
  have b4 := hx.trips
  have b5 := hx.hazards
  refine meets_pure (F := fe_kit_World) hTh hMx func_kit_World rfl call_kit_World rfl rfl rfl ?_
  conv => whnf
  refine ⟨by kernel_rfl, ?_⟩
  conv => whnf
  refine CallTo.fn (m_kit_Same_string G x.names.stops y.names.stops (by omega)) ?_
  conv => whnf
  refine cond_split (fun g0 => ?_) (fun g0 => ?_)
  · conv => whnf
    exact Fin.one hTh rfl (AV.no (fun e => dec_no g0 (by rw [e]))) rfl
  conv => whnf
  refine CallTo.fn (m_kit_Same_string G x.names.paths y.names.paths (by omega)) ?_
  conv => whnf
  refine cond_split (fun g1 => ?_) (fun g1 => ?_)
  · conv => whnf
    exact Fin.one hTh rfl (AV.no (fun e => dec_no g1 (by rw [e]))) rfl
  conv => whnf
  refine CallTo.fn (m_kit_Same_string G x.names.doors y.names.doors (by omega)) ?_
  conv => whnf
  refine cond_split (fun g2 => ?_) (fun g2 => ?_)
  · conv => whnf
    exact Fin.one hTh rfl (AV.no (fun e => dec_no g2 (by rw [e]))) rfl
  conv => whnf
  refine CallTo.fn (m_kit_Same_string G x.names.routes y.names.routes (by omega)) ?_
  conv => whnf
  refine cond_split (fun g3 => ?_) (fun g3 => ?_)
  · conv => whnf
    exact Fin.one hTh rfl (AV.no (fun e => dec_no g3 (by rw [e]))) rfl
  conv => whnf
  refine CallTo.fn (m_kit_Same_string G x.names.trips y.names.trips (by omega)) ?_
  conv => whnf
  refine cond_split (fun g4 => ?_) (fun g4 => ?_)
  · conv => whnf
    exact Fin.one hTh rfl (AV.no (fun e => dec_no g4 (by rw [e]))) rfl
  conv => whnf
  refine CallTo.fn (m_kit_Same_string G x.names.hazards y.names.hazards (by omega)) ?_
  conv => whnf
  refine cond_split (fun g5 => ?_) (fun g5 => ?_)
  · conv => whnf
    exact Fin.one hTh rfl (AV.no (fun e => dec_no g5 (by rw [e]))) rfl
  conv => whnf
  refine cond_split (fun h0 => ?_) (fun h0 => ?_)
  · conv => whnf
    exact Fin.one hTh rfl (AV.no (fun e => by rw [e] at h0; simp at h0)) rfl
  conv => whnf
  refine CallTo.fn (m_kit_Same_api_PathOf G x.paths y.paths (by omega)) ?_
  conv => whnf
  refine cond_split (fun h1 => ?_) (fun h1 => ?_)
  · conv => whnf
    exact Fin.one hTh rfl (AV.no (fun e => dec_no h1 (by rw [e]))) rfl
  conv => whnf
  refine CallTo.fn (m_kit_Same_api_DoorOf G x.doors y.doors (by omega)) ?_
  conv => whnf
  refine cond_split (fun h2 => ?_) (fun h2 => ?_)
  · conv => whnf
    exact Fin.one hTh rfl (AV.no (fun e => dec_no h2 (by rw [e]))) rfl
  conv => whnf
  refine CallTo.fn (m_kit_Same_api_TripOf G x.trips y.trips (by omega)) ?_
  conv => whnf
  refine cond_split (fun h3 => ?_) (fun h3 => ?_)
  · conv => whnf
    exact Fin.one hTh rfl (AV.no (fun e => dec_no h3 (by rw [e]))) rfl
  conv => whnf
  refine CallTo.fn (m_kit_Same_api_HazardOf G x.hazards y.hazards (by omega)) ?_
  conv => whnf
  refine cond_split (fun h4 => ?_) (fun h4 => ?_)
  · conv => whnf
    exact Fin.one hTh rfl (AV.no (fun e => dec_no h4 (by rw [e]))) rfl
  conv => whnf
  refine cond_split (fun h6 => ?_) (fun h6 => ?_)
  · conv => whnf
    exact Fin.one hTh rfl (AV.no (fun e => by rw [e] at h6; simp at h6)) rfl
  have hlen := len_of_dec h6
  conv => whnf
  refine LoopOK.weak _ _ ?_ ?_ ?_ (LoopOK.ind (fun i : Nat => x.routes.length - i) (fun i => [(2, .ref (F_kit_World, 2) 0), (3, .ref (F_kit_World, 3) 0), (7, .int .i64 i)]) (fun _ => [((F_kit_World, 2), .cells T_api_World (cWld x)), ((F_kit_World, 3), .cells T_api_World (cWld y))]) (fun i => i ≤ x.routes.length ∧ x.routes.take i = y.routes.take i) ?_ 0 ⟨by omega, by simp⟩)
  · exact ⟨rfl, rfl, rfl, trivial⟩
  · exact ⟨rfl, rfl, trivial⟩
  · rfl
  intro i ⟨hi, hb⟩ IH
  refine LoopOK.round hTh hMx ?_
  conv => whnf
  refine cond_split (fun h => ?_) (fun hz => ?_)
  · have hlt := lt_of_dec h
    have r0 := hx.each _ (List.getElem_mem hlt)
    have r1 := r0.stops
    have r2 := r0.rides
    have r3 := r0.stays
    have hlt2 : i < y.routes.length := by omega
    conv => whnf
    refine IndexTo.at (map_at cRteO hlt) ?_
    conv => whnf
    refine IndexTo.at (map_at cRteO hlt2) ?_
    conv => whnf
    refine ⟨by kernel_rfl, ?_⟩
    conv => whnf
    refine CallTo.fn (m_kit_Same_int G (x.routes[i]).stops (y.routes[i]).stops (by omega)) ?_
    conv => whnf
    refine cond_split (fun c1 => ?_) (fun c1 => ?_)
    · conv => whnf
      exact Fin.one hTh rfl (AV.no (fun e => ne_of_get hlt hlt2 (fun q => dec_no c1 (by rw [q])) (by rw [e]))) rfl
    conv => whnf
    refine CallTo.fn (m_kit_Same_int64 G (x.routes[i]).rides (y.routes[i]).rides (by omega)) ?_
    conv => whnf
    refine cond_split (fun c2 => ?_) (fun c2 => ?_)
    · conv => whnf
      exact Fin.one hTh rfl (AV.no (fun e => ne_of_get hlt hlt2 (fun q => dec_no c2 (by rw [q])) (by rw [e]))) rfl
    conv => whnf
    refine CallTo.fn (m_kit_Same_int64 G (x.routes[i]).stays (y.routes[i]).stays (by omega)) ?_
    conv => whnf
    refine cond_split (fun c3 => ?_) (fun c3 => ?_)
    · conv => whnf
      exact Fin.one hTh rfl (AV.no (fun e => ne_of_get hlt hlt2 (fun q => dec_no c3 (by rw [q])) (by rw [e]))) rfl
    conv => whnf
    refine WrapTo.i64 (by omega) ?_
    conv => whnf
    refine LoopOK.weak _ _ ?_ ?_ ?_ (IH (i + 1) (by omega) ⟨by omega, take_eq_succ hb hlt hlt2 (rteO_ext (dec_yes c1) (dec_yes c2) (dec_yes c3))⟩)
    · exact ⟨rfl, rfl, rfl, trivial⟩
    · exact ⟨rfl, rfl, trivial⟩
    · rfl
  · have hge := le_of_dec hz
    conv => whnf
    exact Fin.one hTh rfl (AV.yes (wld_ext (by simpa using h0) (nms_ext (dec_yes g0) (dec_yes g1) (dec_yes g2) (dec_yes g3) (dec_yes g4) (dec_yes g5)) (dec_yes h1) (dec_yes h2) (take_eq_all hb hge hlen) (dec_yes h3) (dec_yes h4))) rfl
end Go.Proofs.YtelpibkbcljdlaaGreatDoor
/- Worlds: where a name stands; whether worlds are the same, by the program and by the document. -/
set_option linter.unusedVariables false
set_option linter.unusedSimpArgs false
set_option maxRecDepth 10000
namespace Go.Ab
def findS (n : Nms) (s : Str) : Int × Int :=
  if 0 ≤ placeS n.stops s then (1, placeS n.stops s) else if 0 ≤ placeS n.paths s then (2, placeS n.paths s) else if 0 ≤ placeS n.doors s then (3, placeS n.doors s) else if 0 ≤ placeS n.routes s then (4, placeS n.routes s)
  else if 0 ≤ placeS n.trips s then (5, placeS n.trips s) else if 0 ≤ placeS n.hazards s then (6, placeS n.hazards s) else (0, 0)
/-- The pointers to the lists of names, kind by kind. -/
abbrev kindsP (c : List AV) : List AV := [.pp [.emp], .pp c, .pp (c.drop 1), .pp (c.drop 2), .pp (c.drop 3), .pp (c.drop 4), .pp (c.drop 5)]
/-- A world's cells from its names on. -/
abbrev cWld1 (w : Wld) : List AV := [.lst 1 (w.names.stops.map cS), .lst 1 (w.names.paths.map cS), .lst 1 (w.names.doors.map cS), .lst 1 (w.names.routes.map cS), .lst 1 (w.names.trips.map cS), .lst 1 (w.names.hazards.map cS),
  .lst 3 (w.paths.map cPthO), .lst 6 (w.doors.map cDorO), .lst 3 (w.routes.map cRteO), .lst 4 (w.trips.map cTrpO), .lst 5 (w.hazards.map cHzdO)]
end Go.Ab
namespace Go.Proofs.YtelpibkbcljdlaaGreatDoor
open Go Go.Ab
theorem m_kinds (G : GlP) (w : Wld) : Meets Pg G F_world_kinds [.pp (cWld1 w)] [] (.agg (kindsP (cWld1 w))) [] := by
  refine meets_pure (F := fe_world_kinds) hTh hMx func_world_kinds rfl call_world_kinds rfl rfl rfl ?_
  conv => whnf
  refine ⟨by kernel_rfl, ?_⟩
  conv => whnf
  refine Fin.less [((F_world_kinds, 3), .cells T_S_string [.emp])] [(2, .ref (F_world_kinds, 2) 0)] [((F_world_kinds, 2), .cells T_A7_P_S_string (kindsP (cWld1 w)))] ⟨.refl _, trivial⟩ ⟨⟨_, rfl, .cells (.cons (.ref List.mem_cons_self) (.refl _))⟩, trivial⟩ ⟨rfl, rfl, rfl, trivial⟩ rfl ?_
  exact Fin.pure hTh [.agg (kindsP (cWld1 w))] rfl rfl rfl
theorem m_ref09_lists (G : GlP) (n : Nms) : Meets Pg G F_ref09_lists [.agg (cNms n)] [] (.lst 1 ((cNms n).map fun v => [v])) [] := by
  refine meets_pure (F := fe_ref09_lists) hTh hMx func_ref09_lists rfl call_ref09_lists rfl rfl rfl ?_
  conv => whnf
  exact Fin.one hTh rfl (rfl) rfl
theorem m_world_Find (G : GlP) (w : Wld) (hw : NmsFits w.names) (s : Str) : Meets Pg G F_world_Find [.agg (cWld w), .str s] [] (.tup [.int .i64 (findS w.names s).1, .int .i64 (findS w.names s).2]) [] := by
  have b0 := hw.stops
  have b1 := hw.paths
  have b2 := hw.doors
  have b3 := hw.routes
  have b4 := hw.trips
  have b5 := hw.hazards
  refine meets_pure (F := { fe_world_Find with stops := [1] }) hTh hMx func_world_Find rfl call_world_Find rfl rfl rfl ?_
  conv => whnf
  refine CodeTo.less [((F_world_Find, 2), .cells T_api_World (cWld w))] [(1, .str s), (2, .pp (cWld w))] [] ⟨.refl _, .ref List.mem_cons_self, trivial⟩ trivial ⟨rfl, rfl, rfl, trivial⟩ rfl ?_
  refine CodeTo.go hTh hMx ?_
  conv => whnf
  refine CallTo.fn (m_kinds G w) ?_
  conv => whnf
  refine LoopOK.weak [(1, .str s), (10, .agg (kindsP (cWld1 w))), (11, .int .i64 0)] [] ⟨rfl, rfl, rfl, trivial⟩ trivial rfl ?_
  refine LoopOK.round hTh hMx ?_
  conv => whnf
  refine OpTo.at hTh rfl rfl rfl rfl rfl rfl rfl rfl (show 0 < 7 by omega) rfl ?_
  conv => whnf
  refine CallTo.fn (Meets.args (m_world_place G [] s (by simp)) (.cons (.emp 1) (.refl _))) ?_
  conv => whnf
  refine WrapTo.i64 (by omega) ?_
  conv => whnf
  refine LoopOK.weak [(1, .str s), (10, .agg (kindsP (cWld1 w))), (11, .int .i64 1)] [] ⟨rfl, rfl, rfl, trivial⟩ trivial rfl ?_
  refine LoopOK.round hTh hMx ?_
  conv => whnf
  refine OpTo.at hTh rfl rfl rfl rfl rfl rfl rfl rfl (show 1 < 7 by omega) rfl ?_
  conv => whnf
  refine CallTo.fn (m_world_place G w.names.stops s (by omega)) ?_
  conv => whnf
  refine cond_split (fun h1 => ?_) (fun h1 => ?_)
  · have h1 : 0 ≤ placeS w.names.stops s := of_decide_eq_true h1
    have e : findS w.names s = (1, placeS w.names.stops s) := by simp only [findS, h1, if_true, if_false]
    rw [e]
    conv => whnf
    exact Fin.pure hTh [_, _] rfl rfl rfl
  have h1 : ¬ 0 ≤ placeS w.names.stops s := of_decide_eq_false h1
  conv => whnf
  refine WrapTo.i64 (by omega) ?_
  conv => whnf
  refine LoopOK.weak [(1, .str s), (10, .agg (kindsP (cWld1 w))), (11, .int .i64 2)] [] ⟨rfl, rfl, rfl, trivial⟩ trivial rfl ?_
  refine LoopOK.round hTh hMx ?_
  conv => whnf
  refine OpTo.at hTh rfl rfl rfl rfl rfl rfl rfl rfl (show 2 < 7 by omega) rfl ?_
  conv => whnf
  refine CallTo.fn (m_world_place G w.names.paths s (by omega)) ?_
  conv => whnf
  refine cond_split (fun h2 => ?_) (fun h2 => ?_)
  · have h2 : 0 ≤ placeS w.names.paths s := of_decide_eq_true h2
    have e : findS w.names s = (2, placeS w.names.paths s) := by simp only [findS, h1, h2, if_true, if_false]
    rw [e]
    conv => whnf
    exact Fin.pure hTh [_, _] rfl rfl rfl
  have h2 : ¬ 0 ≤ placeS w.names.paths s := of_decide_eq_false h2
  conv => whnf
  refine WrapTo.i64 (by omega) ?_
  conv => whnf
  refine LoopOK.weak [(1, .str s), (10, .agg (kindsP (cWld1 w))), (11, .int .i64 3)] [] ⟨rfl, rfl, rfl, trivial⟩ trivial rfl ?_
  refine LoopOK.round hTh hMx ?_
  conv => whnf
  refine OpTo.at hTh rfl rfl rfl rfl rfl rfl rfl rfl (show 3 < 7 by omega) rfl ?_
  conv => whnf
  refine CallTo.fn (m_world_place G w.names.doors s (by omega)) ?_
  conv => whnf
  refine cond_split (fun h3 => ?_) (fun h3 => ?_)
  · have h3 : 0 ≤ placeS w.names.doors s := of_decide_eq_true h3
    have e : findS w.names s = (3, placeS w.names.doors s) := by simp only [findS, h1, h2, h3, if_true, if_false]
    rw [e]
    conv => whnf
    exact Fin.pure hTh [_, _] rfl rfl rfl
  have h3 : ¬ 0 ≤ placeS w.names.doors s := of_decide_eq_false h3
  conv => whnf
  refine WrapTo.i64 (by omega) ?_
  conv => whnf
  refine LoopOK.weak [(1, .str s), (10, .agg (kindsP (cWld1 w))), (11, .int .i64 4)] [] ⟨rfl, rfl, rfl, trivial⟩ trivial rfl ?_
  refine LoopOK.round hTh hMx ?_
  conv => whnf
  refine OpTo.at hTh rfl rfl rfl rfl rfl rfl rfl rfl (show 4 < 7 by omega) rfl ?_
  conv => whnf
  refine CallTo.fn (m_world_place G w.names.routes s (by omega)) ?_
  conv => whnf
  refine cond_split (fun h4 => ?_) (fun h4 => ?_)
  · have h4 : 0 ≤ placeS w.names.routes s := of_decide_eq_true h4
    have e : findS w.names s = (4, placeS w.names.routes s) := by simp only [findS, h1, h2, h3, h4, if_true, if_false]
    rw [e]
    conv => whnf
    exact Fin.pure hTh [_, _] rfl rfl rfl
  have h4 : ¬ 0 ≤ placeS w.names.routes s := of_decide_eq_false h4
  conv => whnf
  refine WrapTo.i64 (by omega) ?_
  conv => whnf
  refine LoopOK.weak [(1, .str s), (10, .agg (kindsP (cWld1 w))), (11, .int .i64 5)] [] ⟨rfl, rfl, rfl, trivial⟩ trivial rfl ?_
  refine LoopOK.round hTh hMx ?_
  conv => whnf
  refine OpTo.at hTh rfl rfl rfl rfl rfl rfl rfl rfl (show 5 < 7 by omega) rfl ?_
  conv => whnf
  refine CallTo.fn (m_world_place G w.names.trips s (by omega)) ?_
  conv => whnf
  refine cond_split (fun h5 => ?_) (fun h5 => ?_)
  · have h5 : 0 ≤ placeS w.names.trips s := of_decide_eq_true h5
    have e : findS w.names s = (5, placeS w.names.trips s) := by simp only [findS, h1, h2, h3, h4, h5, if_true, if_false]
    rw [e]
    conv => whnf
    exact Fin.pure hTh [_, _] rfl rfl rfl
  have h5 : ¬ 0 ≤ placeS w.names.trips s := of_decide_eq_false h5
  conv => whnf
  refine WrapTo.i64 (by omega) ?_
  conv => whnf
  refine LoopOK.weak [(1, .str s), (10, .agg (kindsP (cWld1 w))), (11, .int .i64 6)] [] ⟨rfl, rfl, rfl, trivial⟩ trivial rfl ?_
  refine LoopOK.round hTh hMx ?_
  conv => whnf
  refine OpTo.at hTh rfl rfl rfl rfl rfl rfl rfl rfl (show 6 < 7 by omega) rfl ?_
  conv => whnf
  refine CallTo.fn (m_world_place G w.names.hazards s (by omega)) ?_
  conv => whnf
  refine cond_split (fun h6 => ?_) (fun h6 => ?_)
  · have h6 : 0 ≤ placeS w.names.hazards s := of_decide_eq_true h6
    have e : findS w.names s = (6, placeS w.names.hazards s) := by simp only [findS, h1, h2, h3, h4, h5, h6, if_true, if_false]
    rw [e]
    conv => whnf
    exact Fin.pure hTh [_, _] rfl rfl rfl
  have h6 : ¬ 0 ≤ placeS w.names.hazards s := of_decide_eq_false h6
  conv => whnf
  refine WrapTo.i64 (by omega) ?_
  conv => whnf
  refine LoopOK.weak [(1, .str s), (10, .agg (kindsP (cWld1 w))), (11, .int .i64 7)] [] ⟨rfl, rfl, rfl, trivial⟩ trivial rfl ?_
  refine LoopOK.round hTh hMx ?_
  conv => whnf
  have e : findS w.names s = (0, 0) := by simp only [findS, h1, h2, h3, h4, h5, h6, if_false]
  rw [e]
  exact Fin.pure hTh [_, _] rfl rfl rfl
theorem m_ref09_Find (G : GlP) (w : Wld) (hw : NmsFits w.names) (s : Str) : Meets Pg G F_ref09_Find [.agg (cWld w), .str s] [] (.tup [.int .i64 (findS w.names s).1, .int .i64 (findS w.names s).2]) [] := by
  have b0 := hw.stops
  have b1 := hw.paths
  have b2 := hw.doors
  have b3 := hw.routes
  have b4 := hw.trips
  have b5 := hw.hazards
  refine meets_pure (F := fe_ref09_Find) hTh hMx func_ref09_Find rfl call_ref09_Find rfl rfl rfl ?_
  conv => whnf
  refine CallTo.fn (m_ref09_lists G w.names) ?_
  conv => whnf
  refine LoopOK.weak [(1, .str s), (6, .lst 1 ((cNms w.names).map fun v => [v])), (7, .int .i64 0)] [] ⟨rfl, rfl, rfl, trivial⟩ trivial rfl ?_
  refine LoopOK.round hTh hMx ?_
  conv => whnf
  refine IndexTo.at (i := 0) (c := [.lst 1 (w.names.stops.map cS)]) rfl ?_
  conv => whnf
  refine CallTo.fn (m_ref09_place G w.names.stops s (by omega)) ?_
  conv => whnf
  refine cond_split (fun h1 => ?_) (fun h1 => ?_)
  · have h1 : 0 ≤ placeS w.names.stops s := of_decide_eq_true h1
    have e : findS w.names s = (1, placeS w.names.stops s) := by simp only [findS, h1, if_true, if_false]
    rw [e]
    conv => whnf
    refine WrapTo.i64 (by omega) ?_
    conv => whnf
    exact Fin.pure hTh [_, _] rfl rfl rfl
  have h1 : ¬ 0 ≤ placeS w.names.stops s := of_decide_eq_false h1
  conv => whnf
  refine WrapTo.i64 (by omega) ?_
  conv => whnf
  refine LoopOK.weak [(1, .str s), (6, .lst 1 ((cNms w.names).map fun v => [v])), (7, .int .i64 1)] [] ⟨rfl, rfl, rfl, trivial⟩ trivial rfl ?_
  refine LoopOK.round hTh hMx ?_
  conv => whnf
  refine IndexTo.at (i := 1) (c := [.lst 1 (w.names.paths.map cS)]) rfl ?_
  conv => whnf
  refine CallTo.fn (m_ref09_place G w.names.paths s (by omega)) ?_
  conv => whnf
  refine cond_split (fun h2 => ?_) (fun h2 => ?_)
  · have h2 : 0 ≤ placeS w.names.paths s := of_decide_eq_true h2
    have e : findS w.names s = (2, placeS w.names.paths s) := by simp only [findS, h1, h2, if_true, if_false]
    rw [e]
    conv => whnf
    refine WrapTo.i64 (by omega) ?_
    conv => whnf
    exact Fin.pure hTh [_, _] rfl rfl rfl
  have h2 : ¬ 0 ≤ placeS w.names.paths s := of_decide_eq_false h2
  conv => whnf
  refine WrapTo.i64 (by omega) ?_
  conv => whnf
  refine LoopOK.weak [(1, .str s), (6, .lst 1 ((cNms w.names).map fun v => [v])), (7, .int .i64 2)] [] ⟨rfl, rfl, rfl, trivial⟩ trivial rfl ?_
  refine LoopOK.round hTh hMx ?_
  conv => whnf
  refine IndexTo.at (i := 2) (c := [.lst 1 (w.names.doors.map cS)]) rfl ?_
  conv => whnf
  refine CallTo.fn (m_ref09_place G w.names.doors s (by omega)) ?_
  conv => whnf
  refine cond_split (fun h3 => ?_) (fun h3 => ?_)
  · have h3 : 0 ≤ placeS w.names.doors s := of_decide_eq_true h3
    have e : findS w.names s = (3, placeS w.names.doors s) := by simp only [findS, h1, h2, h3, if_true, if_false]
    rw [e]
    conv => whnf
    refine WrapTo.i64 (by omega) ?_
    conv => whnf
    exact Fin.pure hTh [_, _] rfl rfl rfl
  have h3 : ¬ 0 ≤ placeS w.names.doors s := of_decide_eq_false h3
  conv => whnf
  refine WrapTo.i64 (by omega) ?_
  conv => whnf
  refine LoopOK.weak [(1, .str s), (6, .lst 1 ((cNms w.names).map fun v => [v])), (7, .int .i64 3)] [] ⟨rfl, rfl, rfl, trivial⟩ trivial rfl ?_
  refine LoopOK.round hTh hMx ?_
  conv => whnf
  refine IndexTo.at (i := 3) (c := [.lst 1 (w.names.routes.map cS)]) rfl ?_
  conv => whnf
  refine CallTo.fn (m_ref09_place G w.names.routes s (by omega)) ?_
  conv => whnf
  refine cond_split (fun h4 => ?_) (fun h4 => ?_)
  · have h4 : 0 ≤ placeS w.names.routes s := of_decide_eq_true h4
    have e : findS w.names s = (4, placeS w.names.routes s) := by simp only [findS, h1, h2, h3, h4, if_true, if_false]
    rw [e]
    conv => whnf
    refine WrapTo.i64 (by omega) ?_
    conv => whnf
    exact Fin.pure hTh [_, _] rfl rfl rfl
  have h4 : ¬ 0 ≤ placeS w.names.routes s := of_decide_eq_false h4
  conv => whnf
  refine WrapTo.i64 (by omega) ?_
  conv => whnf
  refine LoopOK.weak [(1, .str s), (6, .lst 1 ((cNms w.names).map fun v => [v])), (7, .int .i64 4)] [] ⟨rfl, rfl, rfl, trivial⟩ trivial rfl ?_
  refine LoopOK.round hTh hMx ?_
  conv => whnf
  refine IndexTo.at (i := 4) (c := [.lst 1 (w.names.trips.map cS)]) rfl ?_
  conv => whnf
  refine CallTo.fn (m_ref09_place G w.names.trips s (by omega)) ?_
  conv => whnf
  refine cond_split (fun h5 => ?_) (fun h5 => ?_)
  · have h5 : 0 ≤ placeS w.names.trips s := of_decide_eq_true h5
    have e : findS w.names s = (5, placeS w.names.trips s) := by simp only [findS, h1, h2, h3, h4, h5, if_true, if_false]
    rw [e]
    conv => whnf
    refine WrapTo.i64 (by omega) ?_
    conv => whnf
    exact Fin.pure hTh [_, _] rfl rfl rfl
  have h5 : ¬ 0 ≤ placeS w.names.trips s := of_decide_eq_false h5
  conv => whnf
  refine WrapTo.i64 (by omega) ?_
  conv => whnf
  refine LoopOK.weak [(1, .str s), (6, .lst 1 ((cNms w.names).map fun v => [v])), (7, .int .i64 5)] [] ⟨rfl, rfl, rfl, trivial⟩ trivial rfl ?_
  refine LoopOK.round hTh hMx ?_
  conv => whnf
  refine IndexTo.at (i := 5) (c := [.lst 1 (w.names.hazards.map cS)]) rfl ?_
  conv => whnf
  refine CallTo.fn (m_ref09_place G w.names.hazards s (by omega)) ?_
  conv => whnf
  refine cond_split (fun h6 => ?_) (fun h6 => ?_)
  · have h6 : 0 ≤ placeS w.names.hazards s := of_decide_eq_true h6
    have e : findS w.names s = (6, placeS w.names.hazards s) := by simp only [findS, h1, h2, h3, h4, h5, h6, if_true, if_false]
    rw [e]
    conv => whnf
    refine WrapTo.i64 (by omega) ?_
    conv => whnf
    exact Fin.pure hTh [_, _] rfl rfl rfl
  have h6 : ¬ 0 ≤ placeS w.names.hazards s := of_decide_eq_false h6
  conv => whnf
  refine WrapTo.i64 (by omega) ?_
  conv => whnf
  refine LoopOK.weak [(1, .str s), (6, .lst 1 ((cNms w.names).map fun v => [v])), (7, .int .i64 6)] [] ⟨rfl, rfl, rfl, trivial⟩ trivial rfl ?_
  refine LoopOK.round hTh hMx ?_
  conv => whnf
  have e : findS w.names s = (0, 0) := by simp only [findS, h1, h2, h3, h4, h5, h6, if_false]
  rw [e]
  exact Fin.pure hTh [_, _] rfl rfl rfl
end Go.Proofs.YtelpibkbcljdlaaGreatDoor
/- Worlds: whether they are the same, by the program. -/
set_option linter.unusedVariables false
set_option linter.unusedSimpArgs false
set_option maxRecDepth 10000
namespace Go.Proofs.YtelpibkbcljdlaaGreatDoor
open Go Go.Ab
theorem m_world_Same_1 (G : GlP) (p q : RteO) (hp : RteOFits p) : Meets Pg G F_world_Same_1 [.agg (cRteO p), .agg (cRteO q)] [] (.bool (decide (p = q))) [] := by
  have b1 := hp.stops
  have b2 := hp.rides
  have b3 := hp.stays
  refine meets_pure (F := fe_world_Same_1) hTh hMx func_world_Same_1 rfl call_world_Same_1 rfl rfl rfl ?_
  conv => whnf
  refine CallTo.fn (m_slices_Equal_int_int G p.stops q.stops (by omega)) ?_
  conv => whnf
  refine cond_split (fun h2 => ?_) (fun h2 => ?_)
  · conv => whnf
    refine CallTo.fn (m_slices_Equal_int64_int64 G p.rides q.rides (by omega)) ?_
    conv => whnf
    refine cond_split (fun h3 => ?_) (fun h3 => ?_)
    · conv => whnf
      refine CallTo.fn (m_slices_Equal_int64_int64 G p.stays q.stays (by omega)) ?_
      conv => whnf
      exact Fin.one hTh rfl (congrArg AV.bool (decide_eq_decide.2 ⟨fun h4 => rteO_ext (of_decide_eq_true h2) (of_decide_eq_true h3) h4, fun e => by rw [e]⟩)) rfl
    · conv => whnf
      exact Fin.one hTh rfl (AV.no (fun e => of_decide_eq_false h3 (by rw [e]))) rfl
  · conv => whnf
    exact Fin.one hTh rfl (AV.no (fun e => of_decide_eq_false h2 (by rw [e]))) rfl
theorem m_equalF_RteO (G : GlP) (xs ys : List RteO) (fv : AV) (hf : ∀ p q, p ∈ xs → MeetsV Pg G fv [.agg (cRteO p), .agg (cRteO q)] [] (.bool (decide (p = q))) []) (hfv : cloB (fun _ => false) fv = true) (hl : xs.length ≤ 4294967296) :
    Meets Pg G F_slices_EqualFunc_api_RouteOf_api_RouteOf_api_RouteOf_api_RouteOf [.lst 3 (xs.map cRteO), .lst 3 (ys.map cRteO), fv] [] (.bool (decide (xs = ys))) [] := by
  have hck : ∀ n : Int, cloChk [] [(1, .lst 3 (ys.map cRteO)), (2, fv), (15, .lst 3 (xs.map cRteO)), (16, .int .i64 (xs.map cRteO).length), (17, .int .i64 n)] [] = true := fun n => chk_mk ⟨rfl, cloB_free hfv, rfl, rfl, rfl, trivial⟩ trivial rfl
  refine meets_pure (F := fe_slices_EqualFunc_api_RouteOf_api_RouteOf_api_RouteOf_api_RouteOf) hTh hMx func_slices_EqualFunc_api_RouteOf_api_RouteOf_api_RouteOf_api_RouteOf rfl call_slices_EqualFunc_api_RouteOf_api_RouteOf_api_RouteOf_api_RouteOf rfl (by simp only [cloL, cloB, cloB_free hfv, Bool.and_true, Bool.true_and]) rfl ?_
  conv => whnf
  refine cond_split (fun h => ?_) (fun h => ?_)
  · conv => whnf
    exact Fin.one hTh rfl (AV.no (ne_of_dec h)) rfl
  have hlen := len_of_dec h
  conv => whnf
  refine LoopOK.weak _ _ ?_ ?_ ?_ (LoopOK.ind (fun i : Nat => xs.length - i) (fun i => [(1, .lst 3 (ys.map cRteO)), (2, fv), (15, .lst 3 (xs.map cRteO)), (16, .int .i64 (xs.map cRteO).length), (17, .int .i64 i)]) (fun _ => []) (fun i => i ≤ xs.length ∧ xs.take i = ys.take i) ?_ 0 ⟨by omega, by simp⟩)
  · exact ⟨rfl, rfl, rfl, rfl, rfl, trivial⟩
  · trivial
  · exact hck 0
  intro i ⟨hi, hb⟩ IH
  refine LoopOK.round hTh hMx ?_
  conv => whnf
  refine cond_split (fun h => ?_) (fun h => ?_)
  · have hlt := lt_of_dec h
    conv => whnf
    refine IndexTo.at (map_at cRteO hlt) ?_
    conv => whnf
    refine IndexTo.at (map_at cRteO (show i < ys.length by omega)) ?_
    conv => whnf
    refine CallTo.pure (hf _ _ (List.getElem_mem hlt)) ?_
    conv => whnf
    refine cond_split (fun he => ?_) (fun he => ?_)
    · conv => whnf
      exact Fin.one hTh rfl (AV.no (ne_of_get hlt (by omega) (dec_no he))) rfl
    · conv => whnf
      refine WrapTo.i64 (by omega) ?_
      conv => whnf
      refine LoopOK.weak _ _ ?_ ?_ ?_ (IH (i + 1) (by omega) ⟨by omega, take_eq_succ hb hlt (by omega) (dec_yes he)⟩)
      · exact ⟨rfl, rfl, rfl, rfl, rfl, trivial⟩
      · trivial
      · exact hck _
  · have hge := le_of_dec h
    conv => whnf
    exact Fin.one hTh rfl (AV.yes (take_eq_all hb hge hlen)) rfl
theorem m_world_Same (G : GlP) (x y : Wld) (hx : WldFits x) : Meets Pg G F_world_Same [.agg (cWld x), .agg (cWld y)] [] (.bool (decide (x = y))) [] := by
  have n0 := hx.names.stops
  have n1 := hx.names.paths
  have n2 := hx.names.doors
  have n3 := hx.names.routes
  have n4 := hx.names.trips
  have n5 := hx.names.hazards
  have b1 := hx.paths
  have b2 := hx.doors
  have b3 := hx.routes
  have b4 := hx.trips
  have b5 := hx.hazards
  refine meets_pure (F := { fe_world_Same with stops := [1] }) hTh hMx func_world_Same rfl call_world_Same rfl rfl rfl ?_
  conv => whnf
  refine CodeTo.less [((F_world_Same, 2), .cells T_api_World (cWld x)), ((F_world_Same, 3), .cells T_api_World (cWld y))] [(2, .pp (cWld x)), (3, .pp (cWld y))] [] ⟨.ref List.mem_cons_self, .ref (List.mem_cons_of_mem _ List.mem_cons_self), trivial⟩ trivial ⟨rfl, rfl, rfl, rfl, rfl, rfl, trivial⟩ rfl ?_
  refine CodeTo.go hTh hMx ?_
  conv => whnf
  refine CallTo.fn (m_kinds G x) ?_
  conv => whnf
  refine CallTo.fn (m_kinds G y) ?_
  conv => whnf
  refine LoopOK.weak [(2, .pp (cWld x)), (3, .pp (cWld y)), (5, .ref (F_world_Same, 5) 0), (6, .ref (F_world_Same, 6) 0), (13, .int .i64 0)] [((F_world_Same, 5), .cells T_A7_P_S_string (kindsP (cWld1 x))), ((F_world_Same, 6), .cells T_A7_P_S_string (kindsP (cWld1 y)))] ⟨rfl, rfl, rfl, rfl, rfl, trivial⟩ ⟨rfl, rfl, trivial⟩ rfl ?_
  refine LoopOK.round hTh hMx ?_
  conv => whnf
  refine OpTo.arrAt hTh rfl rfl rfl rfl rfl rfl (show 0 < 7 by omega) ?_
  conv => whnf
  refine OpTo.arrAt hTh rfl rfl rfl rfl rfl rfl (show 0 < 7 by omega) ?_
  conv => whnf
  refine CallTo.fn (Meets.args (m_slices_Equal_string_string G [] [] (by simp)) (.cons (.emp 1) (.cons (.emp 1) (.refl _)))) ?_
  conv => whnf
  refine ⟨by kernel_rfl, ?_⟩
  conv => whnf
  refine WrapTo.i64 (by omega) ?_
  conv => whnf
  refine LoopOK.weak [(2, .pp (cWld x)), (3, .pp (cWld y)), (5, .ref (F_world_Same, 5) 0), (6, .ref (F_world_Same, 6) 0), (13, .int .i64 1)] [((F_world_Same, 5), .cells T_A7_P_S_string (kindsP (cWld1 x))), ((F_world_Same, 6), .cells T_A7_P_S_string (kindsP (cWld1 y)))] ⟨rfl, rfl, rfl, rfl, rfl, trivial⟩ ⟨rfl, rfl, trivial⟩ rfl ?_
  refine LoopOK.round hTh hMx ?_
  conv => whnf
  refine OpTo.arrAt hTh rfl rfl rfl rfl rfl rfl (show 1 < 7 by omega) ?_
  conv => whnf
  refine OpTo.arrAt hTh rfl rfl rfl rfl rfl rfl (show 1 < 7 by omega) ?_
  conv => whnf
  refine CallTo.fn (m_slices_Equal_string_string G x.names.stops y.names.stops (by omega)) ?_
  conv => whnf
  refine ⟨by kernel_rfl, ?_⟩
  conv => whnf
  refine cond_split (fun g1 => ?_) (fun g1 => ?_)
  · conv => whnf
    exact Fin.one hTh rfl (AV.no (fun e => dec_no g1 (by rw [e]))) rfl
  conv => whnf
  refine WrapTo.i64 (by omega) ?_
  conv => whnf
  refine LoopOK.weak [(2, .pp (cWld x)), (3, .pp (cWld y)), (5, .ref (F_world_Same, 5) 0), (6, .ref (F_world_Same, 6) 0), (13, .int .i64 2)] [((F_world_Same, 5), .cells T_A7_P_S_string (kindsP (cWld1 x))), ((F_world_Same, 6), .cells T_A7_P_S_string (kindsP (cWld1 y)))] ⟨rfl, rfl, rfl, rfl, rfl, trivial⟩ ⟨rfl, rfl, trivial⟩ rfl ?_
  refine LoopOK.round hTh hMx ?_
  conv => whnf
  refine OpTo.arrAt hTh rfl rfl rfl rfl rfl rfl (show 2 < 7 by omega) ?_
  conv => whnf
  refine OpTo.arrAt hTh rfl rfl rfl rfl rfl rfl (show 2 < 7 by omega) ?_
  conv => whnf
  refine CallTo.fn (m_slices_Equal_string_string G x.names.paths y.names.paths (by omega)) ?_
  conv => whnf
  refine ⟨by kernel_rfl, ?_⟩
  conv => whnf
  refine cond_split (fun g2 => ?_) (fun g2 => ?_)
  · conv => whnf
    exact Fin.one hTh rfl (AV.no (fun e => dec_no g2 (by rw [e]))) rfl
  conv => whnf
  refine WrapTo.i64 (by omega) ?_
  conv => whnf
  refine LoopOK.weak [(2, .pp (cWld x)), (3, .pp (cWld y)), (5, .ref (F_world_Same, 5) 0), (6, .ref (F_world_Same, 6) 0), (13, .int .i64 3)] [((F_world_Same, 5), .cells T_A7_P_S_string (kindsP (cWld1 x))), ((F_world_Same, 6), .cells T_A7_P_S_string (kindsP (cWld1 y)))] ⟨rfl, rfl, rfl, rfl, rfl, trivial⟩ ⟨rfl, rfl, trivial⟩ rfl ?_
  refine LoopOK.round hTh hMx ?_
  conv => whnf
  refine OpTo.arrAt hTh rfl rfl rfl rfl rfl rfl (show 3 < 7 by omega) ?_
  conv => whnf
  refine OpTo.arrAt hTh rfl rfl rfl rfl rfl rfl (show 3 < 7 by omega) ?_
  conv => whnf
  refine CallTo.fn (m_slices_Equal_string_string G x.names.doors y.names.doors (by omega)) ?_
  conv => whnf
  refine ⟨by kernel_rfl, ?_⟩
  conv => whnf
  refine cond_split (fun g3 => ?_) (fun g3 => ?_)
  · conv => whnf
    exact Fin.one hTh rfl (AV.no (fun e => dec_no g3 (by rw [e]))) rfl
  conv => whnf
  refine WrapTo.i64 (by omega) ?_
  conv => whnf
  refine LoopOK.weak [(2, .pp (cWld x)), (3, .pp (cWld y)), (5, .ref (F_world_Same, 5) 0), (6, .ref (F_world_Same, 6) 0), (13, .int .i64 4)] [((F_world_Same, 5), .cells T_A7_P_S_string (kindsP (cWld1 x))), ((F_world_Same, 6), .cells T_A7_P_S_string (kindsP (cWld1 y)))] ⟨rfl, rfl, rfl, rfl, rfl, trivial⟩ ⟨rfl, rfl, trivial⟩ rfl ?_
  refine LoopOK.round hTh hMx ?_
  conv => whnf
  refine OpTo.arrAt hTh rfl rfl rfl rfl rfl rfl (show 4 < 7 by omega) ?_
  conv => whnf
  refine OpTo.arrAt hTh rfl rfl rfl rfl rfl rfl (show 4 < 7 by omega) ?_
  conv => whnf
  refine CallTo.fn (m_slices_Equal_string_string G x.names.routes y.names.routes (by omega)) ?_
  conv => whnf
  refine ⟨by kernel_rfl, ?_⟩
  conv => whnf
  refine cond_split (fun g4 => ?_) (fun g4 => ?_)
  · conv => whnf
    exact Fin.one hTh rfl (AV.no (fun e => dec_no g4 (by rw [e]))) rfl
  conv => whnf
  refine WrapTo.i64 (by omega) ?_
  conv => whnf
  refine LoopOK.weak [(2, .pp (cWld x)), (3, .pp (cWld y)), (5, .ref (F_world_Same, 5) 0), (6, .ref (F_world_Same, 6) 0), (13, .int .i64 5)] [((F_world_Same, 5), .cells T_A7_P_S_string (kindsP (cWld1 x))), ((F_world_Same, 6), .cells T_A7_P_S_string (kindsP (cWld1 y)))] ⟨rfl, rfl, rfl, rfl, rfl, trivial⟩ ⟨rfl, rfl, trivial⟩ rfl ?_
  refine LoopOK.round hTh hMx ?_
  conv => whnf
  refine OpTo.arrAt hTh rfl rfl rfl rfl rfl rfl (show 5 < 7 by omega) ?_
  conv => whnf
  refine OpTo.arrAt hTh rfl rfl rfl rfl rfl rfl (show 5 < 7 by omega) ?_
  conv => whnf
  refine CallTo.fn (m_slices_Equal_string_string G x.names.trips y.names.trips (by omega)) ?_
  conv => whnf
  refine ⟨by kernel_rfl, ?_⟩
  conv => whnf
  refine cond_split (fun g5 => ?_) (fun g5 => ?_)
  · conv => whnf
    exact Fin.one hTh rfl (AV.no (fun e => dec_no g5 (by rw [e]))) rfl
  conv => whnf
  refine WrapTo.i64 (by omega) ?_
  conv => whnf
  refine LoopOK.weak [(2, .pp (cWld x)), (3, .pp (cWld y)), (5, .ref (F_world_Same, 5) 0), (6, .ref (F_world_Same, 6) 0), (13, .int .i64 6)] [((F_world_Same, 5), .cells T_A7_P_S_string (kindsP (cWld1 x))), ((F_world_Same, 6), .cells T_A7_P_S_string (kindsP (cWld1 y)))] ⟨rfl, rfl, rfl, rfl, rfl, trivial⟩ ⟨rfl, rfl, trivial⟩ rfl ?_
  refine LoopOK.round hTh hMx ?_
  conv => whnf
  refine OpTo.arrAt hTh rfl rfl rfl rfl rfl rfl (show 6 < 7 by omega) ?_
  conv => whnf
  refine OpTo.arrAt hTh rfl rfl rfl rfl rfl rfl (show 6 < 7 by omega) ?_
  conv => whnf
  refine CallTo.fn (m_slices_Equal_string_string G x.names.hazards y.names.hazards (by omega)) ?_
  conv => whnf
  refine ⟨by kernel_rfl, ?_⟩
  conv => whnf
  refine cond_split (fun g6 => ?_) (fun g6 => ?_)
  · conv => whnf
    exact Fin.one hTh rfl (AV.no (fun e => dec_no g6 (by rw [e]))) rfl
  conv => whnf
  refine WrapTo.i64 (by omega) ?_
  conv => whnf
  refine LoopOK.weak [(2, .pp (cWld x)), (3, .pp (cWld y)), (5, .ref (F_world_Same, 5) 0), (6, .ref (F_world_Same, 6) 0), (13, .int .i64 7)] [((F_world_Same, 5), .cells T_A7_P_S_string (kindsP (cWld1 x))), ((F_world_Same, 6), .cells T_A7_P_S_string (kindsP (cWld1 y)))] ⟨rfl, rfl, rfl, rfl, rfl, trivial⟩ ⟨rfl, rfl, trivial⟩ rfl ?_
  refine LoopOK.round hTh hMx ?_
  conv => whnf
  refine cond_split (fun h0 => ?_) (fun h0 => ?_)
  rotate_left
  · conv => whnf
    exact Fin.one hTh rfl (AV.no (fun e => by rw [e] at h0; simp at h0)) rfl
  conv => whnf
  refine CallTo.fn (m_slices_Equal_api_PathOf_api_PathOf G x.paths y.paths (by omega)) ?_
  conv => whnf
  refine cond_split (fun h1 => ?_) (fun h1 => ?_)
  rotate_left
  · conv => whnf
    exact Fin.one hTh rfl (AV.no (fun e => of_decide_eq_false h1 (by rw [e]))) rfl
  conv => whnf
  refine CallTo.fn (m_slices_Equal_api_DoorOf_api_DoorOf G x.doors y.doors (by omega)) ?_
  conv => whnf
  refine cond_split (fun h2 => ?_) (fun h2 => ?_)
  rotate_left
  · conv => whnf
    exact Fin.one hTh rfl (AV.no (fun e => of_decide_eq_false h2 (by rw [e]))) rfl
  conv => whnf
  refine CallTo.fn (m_equalF_RteO G x.routes y.routes _ (fun p q hp => MeetsV.of (m_world_Same_1 G p q (hx.each p hp))) rfl (by omega)) ?_
  conv => whnf
  refine cond_split (fun h3 => ?_) (fun h3 => ?_)
  rotate_left
  · conv => whnf
    exact Fin.one hTh rfl (AV.no (fun e => of_decide_eq_false h3 (by rw [e]))) rfl
  conv => whnf
  refine CallTo.fn (m_slices_Equal_api_TripOf_api_TripOf G x.trips y.trips (by omega)) ?_
  conv => whnf
  refine cond_split (fun h4 => ?_) (fun h4 => ?_)
  rotate_left
  · conv => whnf
    exact Fin.one hTh rfl (AV.no (fun e => of_decide_eq_false h4 (by rw [e]))) rfl
  conv => whnf
  refine CallTo.fn (m_slices_Equal_api_HazardOf_api_HazardOf G x.hazards y.hazards (by omega)) ?_
  conv => whnf
  exact Fin.one hTh rfl (congrArg AV.bool (decide_eq_decide.2 ⟨fun h5 => wld_ext (by simpa using h0) (nms_ext (dec_yes g1) (dec_yes g2) (dec_yes g3) (dec_yes g4) (dec_yes g5) (dec_yes g6)) (of_decide_eq_true h1) (of_decide_eq_true h2) (of_decide_eq_true h3) (of_decide_eq_true h4) h5, fun e => by rw [e]⟩)) rfl
end Go.Proofs.YtelpibkbcljdlaaGreatDoor
/- Worlds: whether one is whole, by the program. -/
set_option linter.unusedVariables false
set_option linter.unusedSimpArgs false
set_option maxRecDepth 10000
namespace Go.Ab
def inB (n : Int) (l : Nat) : Bool := decide (0 ≤ n) && decide (n < (l : Int))
def oddS (n : Nms) (i : Int) : Bool := !inB i n.stops.length
def unlike (w : Wld) : Bool := ((w.names.paths.length : Int) != (w.paths.length : Int)) || ((w.names.doors.length : Int) != (w.doors.length : Int)) || ((w.names.routes.length : Int) != (w.routes.length : Int)) || ((w.names.trips.length : Int) != (w.trips.length : Int)) || ((w.names.hazards.length : Int) != (w.hazards.length : Int))
def oddP (n : Nms) (p : PthO) : Bool := oddS n p.a || oddS n p.b
def oddD (n : Nms) (p : DorO) : Bool := oddS n p.a || oddS n p.b
def oddR (n : Nms) (r : RteO) : Bool := r.stops.any (oddS n)
def oddT (n : Nms) (t : TrpO) : Bool := !inB t.route n.routes.length
def oddH (n : Nms) (h : HzdO) : Bool := if h.stop then oddS n h.on else !inB h.on n.paths.length
def wholeS (w : Wld) : Bool := !unlike w && !w.paths.any (oddP w.names) && !w.doors.any (oddD w.names) && !w.routes.any (oddR w.names) && !w.trips.any (oddT w.names) && !w.hazards.any (oddH w.names)
end Go.Ab
namespace Go.Proofs.YtelpibkbcljdlaaGreatDoor
open Go Go.Ab
theorem m_whole_1 (G : GlP) (l : List Str) (i : Int) : Meets Pg G F_world_whole_1 [.lst 1 (l.map cS), .int .i64 i] [] (.bool (inB i l.length)) [] := by
  have e1 : (l.map cS).length = l.length := List.length_map _
  refine meets_pure (F := fe_world_whole_1) hTh hMx func_world_whole_1 rfl call_world_whole_1 rfl rfl rfl ?_
  conv => whnf
  refine cond_split (fun h => ?_) (fun h => ?_)
  · conv => whnf
    have e : inB i l.length = decide (i < ((l.map cS).length : Int)) := by simp only [inB, h, e1, Bool.true_and]
    exact Fin.one hTh rfl (by rw [e]; rfl) rfl
  · conv => whnf
    have e : inB i l.length = false := by simp only [inB, h, Bool.false_and]
    exact Fin.one hTh rfl (by rw [e]; rfl) rfl
abbrev fIn : AV := .fn (.func F_world_whole_1) [] []
theorem v_in (G : GlP) (l : List Str) (i : Int) : MeetsV Pg G fIn [.lst 1 (l.map cS), .int .i64 i] [] (.bool (inB i l.length)) [] := MeetsV.of (m_whole_1 G l i)
theorem m_whole_2 (G : GlP) (n : Nms) (i : Int) : Meets Pg G F_world_whole_2 [.int .i64 i, .pp [fIn], .pp (cNms n)] [] (.bool (oddS n i)) [] := by
  refine meets_pure (F := fe_world_whole_2) hTh hMx func_world_whole_2 rfl call_world_whole_2 rfl rfl rfl ?_
  conv => whnf
  refine CallTo.pure (v_in G n.stops i) ?_
  conv => whnf
  exact Fin.one hTh rfl (rfl) rfl
abbrev fOdd (n : Nms) : AV := .fn (.func F_world_whole_2) [] [.pp [fIn], .pp (cNms n)]
theorem v_odd (G : GlP) (n : Nms) (i : Int) : MeetsV Pg G (fOdd n) [.int .i64 i] [] (.bool (oddS n i)) [] := MeetsV.of (m_whole_2 G n i)
theorem m_whole_3 (G : GlP) (n : Nms) (p : PthO) : Meets Pg G F_world_whole_3 [.agg (cPthO p), .pp [fOdd n]] [] (.bool (oddP n p)) [] := by
  refine meets_pure (F := fe_world_whole_3) hTh hMx func_world_whole_3 rfl call_world_whole_3 rfl rfl rfl ?_
  conv => whnf
  refine CallTo.pure (v_odd G n p.a) ?_
  conv => whnf
  refine cond_split (fun h => ?_) (fun h => ?_)
  · conv => whnf
    exact Fin.one hTh rfl (by simp only [oddP, h, Bool.true_or]; rfl) rfl
  · conv => whnf
    refine CallTo.pure (v_odd G n p.b) ?_
    conv => whnf
    exact Fin.one hTh rfl (by simp only [oddP, h, Bool.false_or]; rfl) rfl
theorem m_whole_4 (G : GlP) (n : Nms) (p : DorO) : Meets Pg G F_world_whole_4 [.agg (cDorO p), .pp [fOdd n]] [] (.bool (oddD n p)) [] := by
  refine meets_pure (F := fe_world_whole_4) hTh hMx func_world_whole_4 rfl call_world_whole_4 rfl rfl rfl ?_
  conv => whnf
  refine CallTo.pure (v_odd G n p.a) ?_
  conv => whnf
  refine cond_split (fun h => ?_) (fun h => ?_)
  · conv => whnf
    exact Fin.one hTh rfl (by simp only [oddD, h, Bool.true_or]; rfl) rfl
  · conv => whnf
    refine CallTo.pure (v_odd G n p.b) ?_
    conv => whnf
    exact Fin.one hTh rfl (by simp only [oddD, h, Bool.false_or]; rfl) rfl
theorem m_whole_5 (G : GlP) (n : Nms) (r : RteO) (hr : r.stops.length ≤ 65536) : Meets Pg G F_world_whole_5 [.agg (cRteO r), .pp [fOdd n]] [] (.bool (oddR n r)) [] := by
  refine meets_pure (F := fe_world_whole_5) hTh hMx func_world_whole_5 rfl call_world_whole_5 rfl rfl rfl ?_
  conv => whnf
  refine CallTo.fn (m_slices_ContainsFunc_int_int G r.stops _ (oddS n) (fun i _ => v_odd G n i) rfl (by omega)) ?_
  conv => whnf
  exact Fin.one hTh rfl (rfl) rfl
theorem m_whole_6 (G : GlP) (n : Nms) (t : TrpO) : Meets Pg G F_world_whole_6 [.agg (cTrpO t), .pp [fIn], .pp (cNms n)] [] (.bool (oddT n t)) [] := by
  refine meets_pure (F := fe_world_whole_6) hTh hMx func_world_whole_6 rfl call_world_whole_6 rfl rfl rfl ?_
  conv => whnf
  refine CallTo.pure (v_in G n.routes t.route) ?_
  conv => whnf
  exact Fin.one hTh rfl (rfl) rfl
theorem m_whole_7 (G : GlP) (n : Nms) (h : HzdO) : Meets Pg G F_world_whole_7 [.agg (cHzdO h), .pp [fOdd n], .pp [fIn], .pp (cNms n)] [] (.bool (oddH n h)) [] := by
  refine meets_pure (F := fe_world_whole_7) hTh hMx func_world_whole_7 rfl call_world_whole_7 rfl rfl rfl ?_
  conv => whnf
  refine cond_split (fun hc => ?_) (fun hc => ?_)
  · have e : oddH n h = oddS n h.on := by unfold oddH; rw [if_pos hc]
    rw [e]
    conv => whnf
    refine CallTo.pure (v_odd G n h.on) ?_
    conv => whnf
    exact Fin.one hTh rfl (rfl) rfl
  · have e : oddH n h = !inB h.on n.paths.length := by unfold oddH; rw [hc]; rfl
    rw [e]
    conv => whnf
    refine CallTo.pure (v_in G n.paths h.on) ?_
    conv => whnf
    exact Fin.one hTh rfl (rfl) rfl
theorem m_world_whole (G : GlP) (w : Wld) (hw : WldFits w) : Meets Pg G F_world_whole [.agg (cWld w)] [] (.bool (wholeS w)) [] := by
  have b1 := hw.paths
  have b2 := hw.doors
  have b3 := hw.routes
  have b4 := hw.trips
  have b5 := hw.hazards
  have e0 : (w.paths.map cPthO).length = w.paths.length := List.length_map _
  have d0 : (w.names.paths.map cS).length = w.names.paths.length := List.length_map _
  have e1 : (w.doors.map cDorO).length = w.doors.length := List.length_map _
  have d1 : (w.names.doors.map cS).length = w.names.doors.length := List.length_map _
  have e2 : (w.routes.map cRteO).length = w.routes.length := List.length_map _
  have d2 : (w.names.routes.map cS).length = w.names.routes.length := List.length_map _
  have e3 : (w.trips.map cTrpO).length = w.trips.length := List.length_map _
  have d3 : (w.names.trips.map cS).length = w.names.trips.length := List.length_map _
  have e4 : (w.hazards.map cHzdO).length = w.hazards.length := List.length_map _
  have d4 : (w.names.hazards.map cS).length = w.names.hazards.length := List.length_map _
  refine meets_pure (F := { fe_world_whole with stops := [5, 6] }) hTh hMx func_world_whole rfl call_world_whole rfl rfl rfl ?_
  conv => whnf
  iterate 4
    refine cond_split (fun h => ?_) (fun _ => ?_)
    · conv => whnf
      have : unlike w = true := by simp only [unlike, Bool.or_eq_true]; simp only [d0, d1, d2, d3, d4, e0, e1, e2, e3, e4] at h; simp only [h, true_or, or_true]
      exact Fin.one hTh rfl (by simp only [wholeS, this, Bool.not_true, Bool.false_and]; rfl) rfl
    conv => whnf
  refine cond_split (fun h => ?_) (fun _ => ?_)
  · conv => whnf
    have : unlike w = true := by simp only [unlike, Bool.or_eq_true]; simp only [d0, d1, d2, d3, d4, e0, e1, e2, e3, e4] at h; simp only [h, true_or, or_true]
    exact Fin.one hTh rfl (by simp only [wholeS, this, Bool.not_true, Bool.false_and]; rfl) rfl
  have ht : unlike w = false := by simp only [d0, d1, d2, d3, d4, e0, e1, e2, e3, e4] at *; simp_all only [unlike, Bool.or_false, Bool.or_self]
  conv => whnf
  refine CodeTo.less [((F_world_whole, 3), .cells T_api_Names (cNms w.names)), ((F_world_whole, 4), .cells _ [fIn])] [(1, .ref (F_world_whole, 1) 0), (3, .pp (cNms w.names)), (4, .pp [fIn])] [((F_world_whole, 1), .cells T_api_World (cWld w))]
    ⟨.refl _, .ref List.mem_cons_self, .ref (List.mem_cons_of_mem _ List.mem_cons_self), trivial⟩ ⟨⟨_, rfl, .refl _⟩, trivial⟩ ⟨rfl, rfl, rfl, rfl, rfl, rfl, trivial⟩ rfl ?_
  refine CodeTo.go hTh hMx ?_
  conv => whnf
  refine CodeTo.less [((F_world_whole, 5), .cells _ [fOdd w.names])] [(1, .ref (F_world_whole, 1) 0), (3, .pp (cNms w.names)), (4, .pp [fIn]), (5, .pp [fOdd w.names])] [((F_world_whole, 1), .cells T_api_World (cWld w))]
    ⟨.refl _, .refl _, .refl _, .ref List.mem_cons_self, trivial⟩ ⟨⟨_, rfl, .refl _⟩, trivial⟩ ⟨rfl, rfl, rfl, trivial⟩ rfl ?_
  refine CodeTo.go hTh hMx ?_
  conv => whnf
  refine CallTo.fn (m_slices_ContainsFunc_api_PathOf_api_PathOf G w.paths _ (oddP w.names) (fun p hp => MeetsV.of (m_whole_3 G w.names p)) rfl (by omega)) ?_
  conv => whnf
  refine cond_split (fun g0 => ?_) (fun g0 => ?_)
  rotate_left
  · have e : wholeS w = false := by simp only [wholeS, ht, g0, Bool.not_false, Bool.true_and, Bool.false_and]
    rw [e]
    conv => whnf
    exact Fin.one hTh rfl (rfl) rfl
  conv => whnf
  refine CallTo.fn (m_slices_ContainsFunc_api_DoorOf_api_DoorOf G w.doors _ (oddD w.names) (fun p hp => MeetsV.of (m_whole_4 G w.names p)) rfl (by omega)) ?_
  conv => whnf
  refine cond_split (fun g1 => ?_) (fun g1 => ?_)
  rotate_left
  · have e : wholeS w = false := by simp only [wholeS, ht, g0, g1, Bool.not_false, Bool.true_and, Bool.false_and]
    rw [e]
    conv => whnf
    exact Fin.one hTh rfl (rfl) rfl
  conv => whnf
  refine CallTo.fn (m_slices_ContainsFunc_api_RouteOf_api_RouteOf G w.routes _ (oddR w.names) (fun p hp => MeetsV.of (m_whole_5 G w.names p (hw.each p hp).stops)) rfl (by omega)) ?_
  conv => whnf
  refine cond_split (fun g2 => ?_) (fun g2 => ?_)
  rotate_left
  · have e : wholeS w = false := by simp only [wholeS, ht, g0, g1, g2, Bool.not_false, Bool.true_and, Bool.false_and]
    rw [e]
    conv => whnf
    exact Fin.one hTh rfl (rfl) rfl
  conv => whnf
  refine CallTo.fn (m_slices_ContainsFunc_api_TripOf_api_TripOf G w.trips _ (oddT w.names) (fun p hp => MeetsV.of (m_whole_6 G w.names p)) rfl (by omega)) ?_
  conv => whnf
  refine cond_split (fun g3 => ?_) (fun g3 => ?_)
  rotate_left
  · have e : wholeS w = false := by simp only [wholeS, ht, g0, g1, g2, g3, Bool.not_false, Bool.true_and, Bool.false_and]
    rw [e]
    conv => whnf
    exact Fin.one hTh rfl (rfl) rfl
  conv => whnf
  refine CallTo.fn (m_slices_ContainsFunc_api_HazardOf_api_HazardOf G w.hazards _ (oddH w.names) (fun p hp => MeetsV.of (m_whole_7 G w.names p)) rfl (by omega)) ?_
  conv => whnf
  have e : wholeS w = !w.hazards.any (oddH w.names) := by simp only [wholeS, ht, g0, g1, g2, g3, Bool.not_false, Bool.true_and]
  rw [e]
  exact Fin.one hTh rfl (rfl) rfl
end Go.Proofs.YtelpibkbcljdlaaGreatDoor
/- Worlds: whether one is whole, by the document. -/
set_option linter.unusedVariables false
set_option linter.unusedSimpArgs false
set_option maxRecDepth 10000
namespace Go.Ab
theorem flag_step {α : Type} {o : Bool} {p : α → Bool} {xs : List α} {i : Nat} {b c : Bool} (hb : b = (o && !(xs.take i).any p)) (h : i < xs.length) (ht : b = true) (hc : c = !p xs[i]) : c = (o && !(xs.take (i + 1)).any p) := by
  rw [List.take_succ_eq_append_getElem h, List.any_append, List.any_cons, List.any_nil, hc]
  rw [ht] at hb
  cases o with
  | false => simp at hb
  | true =>
    cases hq : (xs.take i).any p with
    | true => rw [hq] at hb; simp at hb
    | false => cases p xs[i] <;> rfl
theorem flag_end {α : Type} {o : Bool} {p : α → Bool} {xs : List α} {i : Nat} {b : Bool} (hb : b = (o && !(xs.take i).any p)) (h : xs.length ≤ i) : b = (o && !xs.any p) := by
  rwa [List.take_of_length_le h] at hb
theorem flag_out {α : Type} {o : Bool} {p : α → Bool} {xs : List α} {i : Nat} {b : Bool} (hb : b = (o && !(xs.take i).any p)) (h : b = false) : b = (o && !xs.any p) := by
  rw [h] at hb ⊢
  cases o with
  | false => rfl
  | true =>
    cases hq : (xs.take i).any p with
    | false => rw [hq] at hb; simp at hb
    | true =>
      have : xs.any p = true := by
        rw [List.any_eq_true] at hq ⊢
        obtain ⟨x, hx, hp⟩ := hq
        exact ⟨x, List.mem_of_mem_take hx, hp⟩
      rw [this]; rfl
end Go.Ab
namespace Go.Proofs.YtelpibkbcljdlaaGreatDoor
open Go Go.Ab
theorem m_ref09_in (G : GlP) (l : List Str) (i : Int) : Meets Pg G F_ref09_in [.int .i64 i, .lst 1 (l.map cS)] [] (.bool (inB i l.length)) [] := by
  have e1 : (l.map cS).length = l.length := List.length_map _
  refine meets_pure (F := fe_ref09_in) hTh hMx func_ref09_in rfl call_ref09_in rfl rfl rfl ?_
  conv => whnf
  refine cond_split (fun h => ?_) (fun h => ?_)
  · conv => whnf
    have e : inB i l.length = decide (i < ((l.map cS).length : Int)) := by simp only [inB, h, e1, Bool.true_and]
    exact Fin.one hTh rfl (by rw [e]; rfl) rfl
  · conv => whnf
    have e : inB i l.length = false := by simp only [inB, h, Bool.false_and]
    exact Fin.one hTh rfl (by rw [e]; rfl) rfl
theorem m_ref09_whole (G : GlP) (w : Wld) (hw : WldFits w) : Meets Pg G F_ref09_whole [.agg (cWld w)] [] (.bool (wholeS w)) [] := by
  have b1 := hw.paths
  have b2 := hw.doors
  have b3 := hw.routes
  have b4 := hw.trips
  have b5 := hw.hazards
  have e0 : (w.paths.map cPthO).length = w.paths.length := List.length_map _
  have d0 : (w.names.paths.map cS).length = w.names.paths.length := List.length_map _
  have e1 : (w.doors.map cDorO).length = w.doors.length := List.length_map _
  have d1 : (w.names.doors.map cS).length = w.names.doors.length := List.length_map _
  have e2 : (w.routes.map cRteO).length = w.routes.length := List.length_map _
  have d2 : (w.names.routes.map cS).length = w.names.routes.length := List.length_map _
  have e3 : (w.trips.map cTrpO).length = w.trips.length := List.length_map _
  have d3 : (w.names.trips.map cS).length = w.names.trips.length := List.length_map _
  have e4 : (w.hazards.map cHzdO).length = w.hazards.length := List.length_map _
  have d4 : (w.names.hazards.map cS).length = w.names.hazards.length := List.length_map _
  refine meets_pure (F := { fe_ref09_whole with stops := [2] }) hTh hMx func_ref09_whole rfl call_ref09_whole rfl rfl rfl ?_
  conv => whnf
  refine CodeTo.join (fun z T1 L1 => z = .normal ∧ Conv G { fe_ref09_whole with stops := [2] } [] T1 L1 [(1, .ref (F_ref09_whole, 1) 0), (3, .ref (F_ref09_whole, 3) 0), (4, .bool (!unlike w))] [((F_ref09_whole, 1), .cells T_api_World (cWld w)), ((F_ref09_whole, 3), .cells T_api_Names (cNms w.names))]) ?_ ?_
  · refine CodeTo.go hTh hMx ?_
    conv => whnf
    iterate 4
      refine cond_split (fun _ => ?_) (fun h => ?_)
      rotate_left
      · conv => whnf
        refine ⟨rfl, Conv.weak (Weak.mk' ⟨rfl, rfl, congrArg AV.bool ?_, trivial⟩ ⟨rfl, rfl, trivial⟩ rfl)⟩
        have : unlike w = true := by simp only [unlike, bne, Bool.or_eq_true]; simp only [d0, d1, d2, d3, d4, e0, e1, e2, e3, e4] at h; simp only [h, Bool.not_false, true_or, or_true]
        rw [this]; rfl
      conv => whnf
    refine ⟨rfl, Conv.weak (Weak.mk' ⟨rfl, rfl, congrArg AV.bool ?_, trivial⟩ ⟨rfl, rfl, trivial⟩ rfl)⟩
    simp only [d0, d1, d2, d3, d4, e0, e1, e2, e3, e4] at *
    simp_all only [unlike, bne, Bool.not_true, Bool.false_or, Bool.not_not]
  rintro z T1 L1 ⟨rfl, hcv⟩
  refine ⟨_, _, hcv, ?_⟩
  conv => whnf
  refine LoopOK.join (fun z T1 L1 => z = .exit 0 ∧ Conv G { fe_ref09_whole with stops := [2] } [] T1 L1 [(1, .ref (F_ref09_whole, 1) 0), (3, .ref (F_ref09_whole, 3) 0), (4, .bool ((!unlike w) && !w.paths.any (oddP w.names)))] [((F_ref09_whole, 1), .cells T_api_World (cWld w)), ((F_ref09_whole, 3), .cells T_api_Names (cNms w.names))]) ?_ ?_
  · refine LoopOK.weak _ _ ?_ ?_ ?_ (LoopOK.ind (ι := Nat × Bool) (fun s => w.paths.length - s.1) (fun s => [(1, .ref (F_ref09_whole, 1) 0), (3, .ref (F_ref09_whole, 3) 0), (4, .bool s.2), (5, .int .i64 s.1)]) (fun _ => [((F_ref09_whole, 1), .cells T_api_World (cWld w)), ((F_ref09_whole, 3), .cells T_api_Names (cNms w.names))]) (fun s => s.1 ≤ w.paths.length ∧ s.2 = ((!unlike w) && !(w.paths.take s.1).any (oddP w.names))) ?_ (0, (!unlike w)) ⟨by simp, by simp⟩)
    · exact ⟨rfl, rfl, rfl, rfl, trivial⟩
    · exact ⟨rfl, rfl, trivial⟩
    · rfl
    rintro ⟨i, f⟩ ⟨hi, hf⟩ IH
    simp only at hi hf IH
    refine LoopOK.round hTh hMx ?_
    conv => whnf
    refine cond_split (fun h => ?_) (fun h => ?_)
    rotate_left
    · conv => whnf
      exact ⟨rfl, Conv.weak (Weak.mk' ⟨rfl, rfl, congrArg AV.bool (flag_end hf (le_of_dec h)), trivial⟩ ⟨rfl, rfl, trivial⟩ rfl)⟩
    have hlt := lt_of_dec h
    conv => whnf
    refine cond_split (fun ht => ?_) (fun ht => ?_)
    rotate_left
    · conv => whnf
      exact ⟨rfl, Conv.weak (Weak.mk' ⟨rfl, rfl, congrArg AV.bool (flag_out hf ht), trivial⟩ ⟨rfl, rfl, trivial⟩ rfl)⟩
    conv => whnf
    refine IndexTo.at (map_at cPthO hlt) ?_
    conv => whnf
    refine CallTo.fn (m_ref09_in G w.names.stops (w.paths[i]).a) ?_
    conv => whnf
    refine cond_split (fun ha => ?_) (fun ha => ?_)
    · conv => whnf
      refine IndexTo.at (map_at cPthO hlt) ?_
      conv => whnf
      refine CallTo.fn (m_ref09_in G w.names.stops (w.paths[i]).b) ?_
      conv => whnf
      refine ⟨by kernel_rfl, ?_⟩
      conv => whnf
      refine WrapTo.i64 (by omega) ?_
      conv => whnf
      refine LoopOK.weak _ _ ?_ ?_ ?_ (IH (i + 1, inB (w.paths[i]).b w.names.stops.length) (by simp only; omega) ⟨by simp only; omega, flag_step hf hlt ht (by simp only [oddP, oddS, ha, Bool.not_true, Bool.false_or, Bool.not_not])⟩)
      · exact ⟨rfl, rfl, rfl, rfl, trivial⟩
      · exact ⟨rfl, rfl, trivial⟩
      · rfl
    · conv => whnf
      refine ⟨by kernel_rfl, ?_⟩
      conv => whnf
      refine WrapTo.i64 (by omega) ?_
      conv => whnf
      refine LoopOK.weak _ _ ?_ ?_ ?_ (IH (i + 1, false) (by simp only; omega) ⟨by simp only; omega, flag_step hf hlt ht (by simp only [oddP, oddS, ha, Bool.not_false, Bool.true_or, Bool.not_true])⟩)
      · exact ⟨rfl, rfl, rfl, rfl, trivial⟩
      · exact ⟨rfl, rfl, trivial⟩
      · rfl
  rintro z T1 L1 ⟨rfl, hcv0⟩
  refine ⟨_, _, hcv0, ?_⟩
  conv => whnf
  refine LoopOK.join (fun z T1 L1 => z = .exit 2 ∧ Conv G { fe_ref09_whole with stops := [2] } [] T1 L1 [(1, .ref (F_ref09_whole, 1) 0), (3, .ref (F_ref09_whole, 3) 0), (4, .bool (((!unlike w) && !w.paths.any (oddP w.names)) && !w.doors.any (oddD w.names)))] [((F_ref09_whole, 1), .cells T_api_World (cWld w)), ((F_ref09_whole, 3), .cells T_api_Names (cNms w.names))]) ?_ ?_
  · refine LoopOK.weak _ _ ?_ ?_ ?_ (LoopOK.ind (ι := Nat × Bool) (fun s => w.doors.length - s.1) (fun s => [(1, .ref (F_ref09_whole, 1) 0), (3, .ref (F_ref09_whole, 3) 0), (4, .bool s.2), (6, .int .i64 s.1)]) (fun _ => [((F_ref09_whole, 1), .cells T_api_World (cWld w)), ((F_ref09_whole, 3), .cells T_api_Names (cNms w.names))]) (fun s => s.1 ≤ w.doors.length ∧ s.2 = (((!unlike w) && !w.paths.any (oddP w.names)) && !(w.doors.take s.1).any (oddD w.names))) ?_ (0, ((!unlike w) && !w.paths.any (oddP w.names))) ⟨by simp, by simp⟩)
    · exact ⟨rfl, rfl, rfl, rfl, trivial⟩
    · exact ⟨rfl, rfl, trivial⟩
    · rfl
    rintro ⟨i, f⟩ ⟨hi, hf⟩ IH
    simp only at hi hf IH
    refine LoopOK.round hTh hMx ?_
    conv => whnf
    refine cond_split (fun h => ?_) (fun h => ?_)
    rotate_left
    · conv => whnf
      exact ⟨rfl, Conv.weak (Weak.mk' ⟨rfl, rfl, congrArg AV.bool (flag_end hf (le_of_dec h)), trivial⟩ ⟨rfl, rfl, trivial⟩ rfl)⟩
    have hlt := lt_of_dec h
    conv => whnf
    refine cond_split (fun ht => ?_) (fun ht => ?_)
    rotate_left
    · conv => whnf
      exact ⟨rfl, Conv.weak (Weak.mk' ⟨rfl, rfl, congrArg AV.bool (flag_out hf ht), trivial⟩ ⟨rfl, rfl, trivial⟩ rfl)⟩
    conv => whnf
    refine IndexTo.at (map_at cDorO hlt) ?_
    conv => whnf
    refine CallTo.fn (m_ref09_in G w.names.stops (w.doors[i]).a) ?_
    conv => whnf
    refine cond_split (fun ha => ?_) (fun ha => ?_)
    · conv => whnf
      refine IndexTo.at (map_at cDorO hlt) ?_
      conv => whnf
      refine CallTo.fn (m_ref09_in G w.names.stops (w.doors[i]).b) ?_
      conv => whnf
      refine ⟨by kernel_rfl, ?_⟩
      conv => whnf
      refine WrapTo.i64 (by omega) ?_
      conv => whnf
      refine LoopOK.weak _ _ ?_ ?_ ?_ (IH (i + 1, inB (w.doors[i]).b w.names.stops.length) (by simp only; omega) ⟨by simp only; omega, flag_step hf hlt ht (by simp only [oddD, oddS, ha, Bool.not_true, Bool.false_or, Bool.not_not])⟩)
      · exact ⟨rfl, rfl, rfl, rfl, trivial⟩
      · exact ⟨rfl, rfl, trivial⟩
      · rfl
    · conv => whnf
      refine ⟨by kernel_rfl, ?_⟩
      conv => whnf
      refine WrapTo.i64 (by omega) ?_
      conv => whnf
      refine LoopOK.weak _ _ ?_ ?_ ?_ (IH (i + 1, false) (by simp only; omega) ⟨by simp only; omega, flag_step hf hlt ht (by simp only [oddD, oddS, ha, Bool.not_false, Bool.true_or, Bool.not_true])⟩)
      · exact ⟨rfl, rfl, rfl, rfl, trivial⟩
      · exact ⟨rfl, rfl, trivial⟩
      · rfl
  rintro z T1 L1 ⟨rfl, hcv1⟩
  refine ⟨_, _, hcv1, ?_⟩
  conv => whnf
  refine LoopOK.join (fun z T1 L1 => z = .exit 4 ∧ Conv G { fe_ref09_whole with stops := [2] } [] T1 L1 [(1, .ref (F_ref09_whole, 1) 0), (3, .ref (F_ref09_whole, 3) 0), (4, .bool ((((!unlike w) && !w.paths.any (oddP w.names)) && !w.doors.any (oddD w.names)) && !w.routes.any (oddR w.names)))] [((F_ref09_whole, 1), .cells T_api_World (cWld w)), ((F_ref09_whole, 3), .cells T_api_Names (cNms w.names))]) ?_ ?_
  · refine LoopOK.weak _ _ ?_ ?_ ?_ (LoopOK.ind (ι := Nat × Bool) (fun s => w.routes.length - s.1) (fun s => [(1, .ref (F_ref09_whole, 1) 0), (3, .ref (F_ref09_whole, 3) 0), (4, .bool s.2), (7, .int .i64 s.1)]) (fun _ => [((F_ref09_whole, 1), .cells T_api_World (cWld w)), ((F_ref09_whole, 3), .cells T_api_Names (cNms w.names))]) (fun s => s.1 ≤ w.routes.length ∧ s.2 = ((((!unlike w) && !w.paths.any (oddP w.names)) && !w.doors.any (oddD w.names)) && !(w.routes.take s.1).any (oddR w.names))) ?_ (0, (((!unlike w) && !w.paths.any (oddP w.names)) && !w.doors.any (oddD w.names))) ⟨by simp, by simp⟩)
    · exact ⟨rfl, rfl, rfl, rfl, trivial⟩
    · exact ⟨rfl, rfl, trivial⟩
    · rfl
    rintro ⟨i, f⟩ ⟨hi, hf⟩ IH
    simp only at hi hf IH
    refine LoopOK.round hTh hMx ?_
    conv => whnf
    refine cond_split (fun h => ?_) (fun h => ?_)
    rotate_left
    · conv => whnf
      exact ⟨rfl, Conv.weak (Weak.mk' ⟨rfl, rfl, congrArg AV.bool (flag_end hf (le_of_dec h)), trivial⟩ ⟨rfl, rfl, trivial⟩ rfl)⟩
    have hlt := lt_of_dec h
    conv => whnf
    refine cond_split (fun ht => ?_) (fun ht => ?_)
    rotate_left
    · conv => whnf
      exact ⟨rfl, Conv.weak (Weak.mk' ⟨rfl, rfl, congrArg AV.bool (flag_out hf ht), trivial⟩ ⟨rfl, rfl, trivial⟩ rfl)⟩
    conv => whnf
    have hst := (hw.each _ (List.getElem_mem hlt)).stops
    refine LoopOK.join (fun z T1 L1 => z = .exit 6 ∧ Conv G { fe_ref09_whole with stops := [2] } [] T1 L1 [(1, .ref (F_ref09_whole, 1) 0), (3, .ref (F_ref09_whole, 3) 0), (4, .bool (true && !(w.routes[i]).stops.any (oddS w.names))), (7, .int .i64 i)] [((F_ref09_whole, 1), .cells T_api_World (cWld w)), ((F_ref09_whole, 3), .cells T_api_Names (cNms w.names))]) ?_ ?_
    · refine LoopOK.weak _ _ ?_ ?_ ?_ (LoopOK.ind (ι := Nat × Bool) (fun s => (w.routes[i]).stops.length - s.1) (fun s => [(1, .ref (F_ref09_whole, 1) 0), (3, .ref (F_ref09_whole, 3) 0), (4, .bool s.2), (7, .int .i64 i), (8, .int .i64 s.1)]) (fun _ => [((F_ref09_whole, 1), .cells T_api_World (cWld w)), ((F_ref09_whole, 3), .cells T_api_Names (cNms w.names))]) (fun s => s.1 ≤ (w.routes[i]).stops.length ∧ s.2 = (true && !((w.routes[i]).stops.take s.1).any (oddS w.names))) ?_ (0, true) ⟨by simp, by simp⟩)
      · exact ⟨rfl, rfl, congrArg AV.bool ht, rfl, rfl, trivial⟩
      · exact ⟨rfl, rfl, trivial⟩
      · rfl
      rintro ⟨j, g⟩ ⟨hj, hg⟩ IH2
      simp only at hj hg IH2
      refine LoopOK.round hTh hMx ?_
      conv => whnf
      refine IndexTo.at (map_at cRteO hlt) ?_
      conv => whnf
      refine cond_split (fun h2 => ?_) (fun h2 => ?_)
      rotate_left
      · conv => whnf
        exact ⟨rfl, Conv.weak (Weak.mk' ⟨rfl, rfl, congrArg AV.bool (flag_end hg (le_of_dec h2)), rfl, trivial⟩ ⟨rfl, rfl, trivial⟩ rfl)⟩
      have hlt2 := lt_of_dec h2
      conv => whnf
      refine cond_split (fun ht2 => ?_) (fun ht2 => ?_)
      rotate_left
      · conv => whnf
        exact ⟨rfl, Conv.weak (Weak.mk' ⟨rfl, rfl, congrArg AV.bool (flag_out hg ht2), rfl, trivial⟩ ⟨rfl, rfl, trivial⟩ rfl)⟩
      conv => whnf
      refine IndexTo.at (map_at cRteO hlt) ?_
      conv => whnf
      refine IndexTo.at (map_at cI hlt2) ?_
      conv => whnf
      refine CallTo.fn (m_ref09_in G w.names.stops ((w.routes[i]).stops[j])) ?_
      conv => whnf
      refine ⟨by kernel_rfl, ?_⟩
      conv => whnf
      refine WrapTo.i64 (by omega) ?_
      conv => whnf
      refine LoopOK.weak _ _ ?_ ?_ ?_ (IH2 (j + 1, inB ((w.routes[i]).stops[j]) w.names.stops.length) (Nat.sub_succ_lt_self _ _ hlt2) ⟨hlt2, flag_step hg hlt2 ht2 (by simp only [oddS, Bool.not_not])⟩)
      · exact ⟨rfl, rfl, rfl, rfl, rfl, trivial⟩
      · exact ⟨rfl, rfl, trivial⟩
      · rfl
    rintro z T1 L1 ⟨rfl, hcv2⟩
    refine ⟨_, _, hcv2, ?_⟩
    conv => whnf
    refine WrapTo.i64 (by omega) ?_
    conv => whnf
    refine LoopOK.weak _ _ ?_ ?_ ?_ (IH (i + 1, (true && !(w.routes[i]).stops.any (oddS w.names))) (by simp only; omega) ⟨by simp only; omega, flag_step hf hlt ht (by simp only [oddR, Bool.true_and])⟩)
    · exact ⟨rfl, rfl, rfl, rfl, trivial⟩
    · exact ⟨rfl, rfl, trivial⟩
    · rfl
  rintro z T1 L1 ⟨rfl, hcv3⟩
  refine ⟨_, _, hcv3, ?_⟩
  conv => whnf
  refine LoopOK.join (fun z T1 L1 => z = .exit 8 ∧ Conv G { fe_ref09_whole with stops := [2] } [] T1 L1 [(1, .ref (F_ref09_whole, 1) 0), (3, .ref (F_ref09_whole, 3) 0), (4, .bool (((((!unlike w) && !w.paths.any (oddP w.names)) && !w.doors.any (oddD w.names)) && !w.routes.any (oddR w.names)) && !w.trips.any (oddT w.names)))] [((F_ref09_whole, 1), .cells T_api_World (cWld w)), ((F_ref09_whole, 3), .cells T_api_Names (cNms w.names))]) ?_ ?_
  · refine LoopOK.weak _ _ ?_ ?_ ?_ (LoopOK.ind (ι := Nat × Bool) (fun s => w.trips.length - s.1) (fun s => [(1, .ref (F_ref09_whole, 1) 0), (3, .ref (F_ref09_whole, 3) 0), (4, .bool s.2), (9, .int .i64 s.1)]) (fun _ => [((F_ref09_whole, 1), .cells T_api_World (cWld w)), ((F_ref09_whole, 3), .cells T_api_Names (cNms w.names))]) (fun s => s.1 ≤ w.trips.length ∧ s.2 = (((((!unlike w) && !w.paths.any (oddP w.names)) && !w.doors.any (oddD w.names)) && !w.routes.any (oddR w.names)) && !(w.trips.take s.1).any (oddT w.names))) ?_ (0, ((((!unlike w) && !w.paths.any (oddP w.names)) && !w.doors.any (oddD w.names)) && !w.routes.any (oddR w.names))) ⟨by simp, by simp⟩)
    · exact ⟨rfl, rfl, rfl, rfl, trivial⟩
    · exact ⟨rfl, rfl, trivial⟩
    · rfl
    rintro ⟨i, f⟩ ⟨hi, hf⟩ IH
    simp only at hi hf IH
    refine LoopOK.round hTh hMx ?_
    conv => whnf
    refine cond_split (fun h => ?_) (fun h => ?_)
    rotate_left
    · conv => whnf
      exact ⟨rfl, Conv.weak (Weak.mk' ⟨rfl, rfl, congrArg AV.bool (flag_end hf (le_of_dec h)), trivial⟩ ⟨rfl, rfl, trivial⟩ rfl)⟩
    have hlt := lt_of_dec h
    conv => whnf
    refine cond_split (fun ht => ?_) (fun ht => ?_)
    rotate_left
    · conv => whnf
      exact ⟨rfl, Conv.weak (Weak.mk' ⟨rfl, rfl, congrArg AV.bool (flag_out hf ht), trivial⟩ ⟨rfl, rfl, trivial⟩ rfl)⟩
    conv => whnf
    refine IndexTo.at (map_at cTrpO hlt) ?_
    conv => whnf
    refine CallTo.fn (m_ref09_in G w.names.routes (w.trips[i]).route) ?_
    conv => whnf
    refine ⟨by kernel_rfl, ?_⟩
    conv => whnf
    refine WrapTo.i64 (by omega) ?_
    conv => whnf
    refine LoopOK.weak _ _ ?_ ?_ ?_ (IH (i + 1, inB (w.trips[i]).route w.names.routes.length) (by simp only; omega) ⟨by simp only; omega, flag_step hf hlt ht (by simp only [oddT, Bool.not_not])⟩)
    · exact ⟨rfl, rfl, rfl, rfl, trivial⟩
    · exact ⟨rfl, rfl, trivial⟩
    · rfl
  rintro z T1 L1 ⟨rfl, hcv4⟩
  refine ⟨_, _, hcv4, ?_⟩
  conv => whnf
  refine LoopOK.join (fun z T1 L1 => z = .exit 10 ∧ Conv G { fe_ref09_whole with stops := [2] } [] T1 L1 [(1, .ref (F_ref09_whole, 1) 0), (3, .ref (F_ref09_whole, 3) 0), (4, .bool ((((((!unlike w) && !w.paths.any (oddP w.names)) && !w.doors.any (oddD w.names)) && !w.routes.any (oddR w.names)) && !w.trips.any (oddT w.names)) && !w.hazards.any (oddH w.names)))] [((F_ref09_whole, 1), .cells T_api_World (cWld w)), ((F_ref09_whole, 3), .cells T_api_Names (cNms w.names))]) ?_ ?_
  · refine LoopOK.weak _ _ ?_ ?_ ?_ (LoopOK.ind (ι := Nat × Bool) (fun s => w.hazards.length - s.1) (fun s => [(1, .ref (F_ref09_whole, 1) 0), (3, .ref (F_ref09_whole, 3) 0), (4, .bool s.2), (10, .int .i64 s.1)]) (fun _ => [((F_ref09_whole, 1), .cells T_api_World (cWld w)), ((F_ref09_whole, 3), .cells T_api_Names (cNms w.names))]) (fun s => s.1 ≤ w.hazards.length ∧ s.2 = ((((((!unlike w) && !w.paths.any (oddP w.names)) && !w.doors.any (oddD w.names)) && !w.routes.any (oddR w.names)) && !w.trips.any (oddT w.names)) && !(w.hazards.take s.1).any (oddH w.names))) ?_ (0, (((((!unlike w) && !w.paths.any (oddP w.names)) && !w.doors.any (oddD w.names)) && !w.routes.any (oddR w.names)) && !w.trips.any (oddT w.names))) ⟨by simp, by simp⟩)
    · exact ⟨rfl, rfl, rfl, rfl, trivial⟩
    · exact ⟨rfl, rfl, trivial⟩
    · rfl
    rintro ⟨i, f⟩ ⟨hi, hf⟩ IH
    simp only at hi hf IH
    refine LoopOK.round hTh hMx ?_
    conv => whnf
    refine cond_split (fun h => ?_) (fun h => ?_)
    rotate_left
    · conv => whnf
      exact ⟨rfl, Conv.weak (Weak.mk' ⟨rfl, rfl, congrArg AV.bool (flag_end hf (le_of_dec h)), trivial⟩ ⟨rfl, rfl, trivial⟩ rfl)⟩
    have hlt := lt_of_dec h
    conv => whnf
    refine cond_split (fun ht => ?_) (fun ht => ?_)
    rotate_left
    · conv => whnf
      exact ⟨rfl, Conv.weak (Weak.mk' ⟨rfl, rfl, congrArg AV.bool (flag_out hf ht), trivial⟩ ⟨rfl, rfl, trivial⟩ rfl)⟩
    conv => whnf
    refine IndexTo.at (map_at cHzdO hlt) ?_
    conv => whnf
    refine cond_split (fun hs => ?_) (fun hs => ?_)
    · conv => whnf
      refine IndexTo.at (map_at cHzdO hlt) ?_
      conv => whnf
      refine CallTo.fn (m_ref09_in G w.names.stops (w.hazards[i]).on) ?_
      conv => whnf
      refine WrapTo.i64 (by omega) ?_
      conv => whnf
      refine LoopOK.weak _ _ ?_ ?_ ?_ (IH (i + 1, inB (w.hazards[i]).on w.names.stops.length) (by simp only; omega) ⟨by simp only; omega, flag_step hf hlt ht (by unfold oddH; rw [if_pos hs]; simp only [oddS, Bool.not_not])⟩)
      · exact ⟨rfl, rfl, rfl, rfl, trivial⟩
      · exact ⟨rfl, rfl, trivial⟩
      · rfl
    · conv => whnf
      refine IndexTo.at (map_at cHzdO hlt) ?_
      conv => whnf
      refine CallTo.fn (m_ref09_in G w.names.paths (w.hazards[i]).on) ?_
      conv => whnf
      refine WrapTo.i64 (by omega) ?_
      conv => whnf
      refine LoopOK.weak _ _ ?_ ?_ ?_ (IH (i + 1, inB (w.hazards[i]).on w.names.paths.length) (by simp only; omega) ⟨by simp only; omega, flag_step hf hlt ht (by unfold oddH; rw [hs]; simp)⟩)
      · exact ⟨rfl, rfl, rfl, rfl, trivial⟩
      · exact ⟨rfl, rfl, trivial⟩
      · rfl
  rintro z T1 L1 ⟨rfl, hcv5⟩
  refine ⟨_, _, hcv5, ?_⟩
  conv => whnf
  exact Fin.one hTh rfl (rfl) rfl
end Go.Proofs.YtelpibkbcljdlaaGreatDoor
/- Worlds: the sheet that a whole world tells. -/
set_option linter.unusedVariables false
set_option linter.unusedSimpArgs false
set_option maxRecDepth 10000
namespace Go.Ab
def nil0 : Tms := ⟨0, 0, 0⟩
def tPth (w : Wld) (i : Nat) : Pth := let p := w.paths.getD i ⟨0, 0, 0⟩; ⟨w.names.paths.getD i [], w.names.stops.getD p.a.toNat [], w.names.stops.getD p.b.toNat [], p.ln⟩
def tDor (w : Wld) (i : Nat) : Dor := let p := w.doors.getD i ⟨0, 0, 0, nil0⟩; ⟨w.names.doors.getD i [], w.names.stops.getD p.a.toNat [], w.names.stops.getD p.b.toNat [], p.ln, p.tm⟩
def tRte (w : Wld) (i : Nat) : Rte := let r := w.routes.getD i ⟨[], [], []⟩; ⟨w.names.routes.getD i [], r.stops.map fun s => w.names.stops.getD s.toNat [], r.rides, r.stays⟩
def tTrp (w : Wld) (i : Nat) : Trp := let t := w.trips.getD i ⟨0, 0, 0, 0⟩; ⟨w.names.trips.getD i [], w.names.routes.getD t.route.toNat [], t.fr, t.ev, t.un⟩
def tHzd (w : Wld) (i : Nat) : Hzd := let h := w.hazards.getD i ⟨false, 0, nil0⟩; ⟨w.names.hazards.getD i [], if h.stop then w.names.stops.getD h.on.toNat [] else w.names.paths.getD h.on.toNat [], h.tm⟩
def toldS (w : Wld) : Sht := ⟨w.hor, w.names.stops, (List.range w.paths.length).map (tPth w), (List.range w.doors.length).map (tDor w), (List.range w.routes.length).map (tRte w), (List.range w.trips.length).map (tTrp w), (List.range w.hazards.length).map (tHzd w)⟩
theorem inB_spec {n : Int} {l : Nat} (h : inB n l = true) : 0 ≤ n ∧ n < (l : Int) := by
  simpa [inB] using h
/-- What being whole gives. -/
structure Sound (w : Wld) : Prop where
  paths : w.names.paths.length = w.paths.length
  doors : w.names.doors.length = w.doors.length
  routes : w.names.routes.length = w.routes.length
  trips : w.names.trips.length = w.trips.length
  hazards : w.names.hazards.length = w.hazards.length
  pathA : ∀ p ∈ w.paths, inB p.a w.names.stops.length = true ∧ inB p.b w.names.stops.length = true
  doorA : ∀ p ∈ w.doors, inB p.a w.names.stops.length = true ∧ inB p.b w.names.stops.length = true
  routeA : ∀ r ∈ w.routes, ∀ s ∈ r.stops, inB s w.names.stops.length = true
  tripA : ∀ t ∈ w.trips, inB t.route w.names.routes.length = true
  hazardA : ∀ h ∈ w.hazards, inB h.on (if h.stop then w.names.stops.length else w.names.paths.length) = true
theorem none_of {α : Type} {p : α → Bool} {xs : List α} (h : (!xs.any p) = true) : ∀ x ∈ xs, p x = false := by
  intro x hx
  rw [Bool.not_eq_true', List.any_eq_false] at h
  simpa using h x hx
theorem sound_of {w : Wld} (h : wholeS w = true) : Sound w := by
  simp only [wholeS, Bool.and_eq_true] at h
  obtain ⟨⟨⟨⟨⟨h0, h1⟩, h2⟩, h3⟩, h4⟩, h5⟩ := h
  simp only [unlike, Bool.not_eq_true', Bool.or_eq_false_iff, bne_eq_false_iff_eq] at h0
  obtain ⟨⟨⟨⟨a1, a2⟩, a3⟩, a4⟩, a5⟩ := h0
  refine ⟨by omega, by omega, by omega, by omega, by omega, fun p hp => ?_, fun p hp => ?_, fun r hr s hs => ?_, fun t ht => ?_, fun q hq => ?_⟩
  · have := none_of h1 p hp
    simpa [oddP, oddS] using this
  · have := none_of h2 p hp
    simpa [oddD, oddS] using this
  · have := none_of h3 r hr
    unfold oddR at this
    rw [List.any_eq_false] at this
    simpa [oddS] using this s hs
  · have := none_of h4 t ht
    simpa [oddT] using this
  · have := none_of h5 q hq
    unfold oddH at this
    split at this
    · rename_i e; rw [if_pos e]; simpa [oddS] using this
    · rename_i e; rw [if_neg e]; simpa using this
end Go.Ab
namespace Go.Proofs.YtelpibkbcljdlaaGreatDoor
open Go Go.Ab
theorem m_told_1 (G : GlP) (n : Nms) (i : Int) (h : inB i n.stops.length = true) : Meets Pg G F_world_told_1 [.int .i64 i, .pp (cNms n)] [] (.str (n.stops.getD i.toNat [])) [] := by
  have h0 := inB_spec h
  refine meets_pure (F := fe_world_told_1) hTh hMx func_world_told_1 rfl call_world_told_1 rfl rfl rfl ?_
  conv => whnf
  refine IndexTo.atD cS [] h0.1 h0.2 ?_
  conv => whnf
  exact Fin.one hTh rfl (rfl) rfl
theorem m_world_told (G : GlP) (w : Wld) (hw : WldFits w) (hs : Sound w) : Meets Pg G F_world_told [.agg (cWld w)] [] (.agg (cSht (toldS w))) [] := by
  have n0 := hw.names.stops
  have b1 := hw.paths
  have b2 := hw.doors
  have b3 := hw.routes
  have b4 := hw.trips
  have b5 := hw.hazards
  refine meets_pure (F := { fe_world_told with stops := [2, 31] }) hTh hMx func_world_told rfl call_world_told rfl rfl rfl ?_
  conv => whnf
  refine CodeTo.less [((F_world_told, 1), .cells T_api_World (cWld w)), ((F_world_told, 3), .cells T_api_Names (cNms w.names))] [(1, .pp (cWld w)), (2, .ref (F_world_told, 2) 0), (3, .pp (cNms w.names))] [((F_world_told, 2), .cells T_api_Sheet (zcells ty_api_Sheet))] ⟨.ref List.mem_cons_self, .refl _, .ref (List.mem_cons_of_mem _ List.mem_cons_self), trivial⟩ ⟨⟨_, rfl, .refl _⟩, trivial⟩ ⟨rfl, rfl, rfl, rfl, rfl, rfl, trivial⟩ rfl ?_
  refine CodeTo.go hTh hMx ?_
  conv => whnf
  refine CallTo.fn (m_slices_Clone_string_string G w.names.stops (by omega)) ?_
  conv => whnf
  refine ⟨by kernel_rfl, ?_⟩
  conv => whnf
  refine LoopOK.conv (Conv.empOwnBox (F_world_told, 4) 2 rfl rfl (F_world_told, 55) rfl T_api_Path 4) ?_
  refine LoopOK.weak _ _ ?_ ?_ ?_ (LoopOK.ind (fun i : Nat => w.paths.length - i) (fun i => [(1, .pp (cWld w)), (2, .ref (F_world_told, 2) 0), (3, .pp (cNms w.names)), (4, .ref (F_world_told, 4) 0), (25, .lst 3 (w.paths.map cPthO)), (26, .int .i64 (w.paths.map cPthO).length), (27, .int .i64 i)]) (fun i => [((F_world_told, 2), .cells T_api_Sheet (zcells ty_api_Sheet)), ((F_world_told, 4), .cells T_api_Sheet [.int .i64 w.hor, .lst 1 (w.names.stops.map cS), (.own (F_world_told, 55) i), .emp, .emp, .emp, .emp]), ((F_world_told, 55), .row T_api_Path 4 (((List.range i).map (tPth w)).map cPth))]) (fun i => i ≤ w.paths.length) ?_ 0 (by omega))
  · exact ⟨rfl, rfl, rfl, rfl, rfl, rfl, rfl, trivial⟩
  · exact ⟨rfl, rfl, rfl, trivial⟩
  · exact chk_mk ⟨rfl, rfl, rfl, rfl, rfl, rfl, rfl, trivial⟩ ⟨rfl, rfl, cloX_row (l := (0, 0)) (e := 0) (sz := 0) (by rw [List.map_map]; exact Clo.map (fun y_ => fPth ((tPth w) y_)) _), trivial⟩ rfl
  intro i1 hi1 IH
  refine LoopOK.round hTh hMx ?_
  conv => whnf
  refine cond_split (fun h => ?_) (fun hz1 => ?_)
  · have hlt := lt_of_dec h
    have hA : inB (w.paths.getD i1 ⟨0, 0, 0⟩).a w.names.stops.length = true ∧ inB (w.paths.getD i1 ⟨0, 0, 0⟩).b w.names.stops.length = true := by have := hs.pathA _ (List.getElem_mem hlt); simpa [hlt] using this
    conv => whnf
    refine IndexTo.at (map_atD cPthO ⟨0, 0, 0⟩ hlt) ?_
    conv => whnf
    refine IndexTo.at (map_atD cS [] (show i1 < w.names.paths.length by have := hs.paths; omega)) ?_
    conv => whnf
    refine IndexTo.atD cS [] (inB_spec hA.1).1 (inB_spec hA.1).2 ?_
    conv => whnf
    refine IndexTo.atD cS [] (inB_spec hA.2).1 (inB_spec hA.2).2 ?_
    conv => whnf
    refine ⟨by simp only [List.length_map, List.length_range], by simp only [List.length_cons, List.length_nil]; omega, ?_⟩
    conv => whnf
    refine ⟨by kernel_rfl, ?_⟩
    conv => whnf
    refine WrapTo.i64 (by omega) ?_
    conv => whnf
    refine LoopOK.weak _ _ ?_ ?_ ?_ (IH (i1 + 1) (by omega) (by omega))
    · exact ⟨rfl, rfl, rfl, rfl, rfl, rfl, rfl, trivial⟩
    · exact ⟨rfl, rfl, congrArg (fun z => some (ABox.row T_api_Path 4 z)) (map_range_succ), trivial⟩
    · exact chk_mk ⟨rfl, rfl, rfl, rfl, rfl, rfl, rfl, trivial⟩ ⟨rfl, rfl, cloX_row (l := (0, 0)) (e := 0) (sz := 0) (by rw [List.map_map]; exact Clo.map (fun y_ => fPth ((tPth w) y_)) _), trivial⟩ rfl
  have hge1 := le_of_dec hz1
  conv => whnf
  obtain rfl : i1 = w.paths.length := by omega
  refine LoopOK.less [((F_world_told, 55), .row T_api_Path 4 (((List.range w.paths.length).map (tPth w)).map cPth))] [(1, .pp (cWld w)), (2, .ref (F_world_told, 2) 0), (3, .pp (cNms w.names)), (4, .ref (F_world_told, 4) 0), (59, .lst 6 (w.doors.map cDorO)), (60, .int .i64 (w.doors.map cDorO).length), (61, .int .i64 0)] [((F_world_told, 2), .cells T_api_Sheet (zcells ty_api_Sheet)), ((F_world_told, 4), .cells T_api_Sheet [.int .i64 w.hor, .lst 1 (w.names.stops.map cS), (.lst 4 (((List.range w.paths.length).map (tPth w)).map cPth)), .emp, .emp, .emp, .emp])] ⟨.refl _, .refl _, .refl _, .refl _, .refl _, .refl _, .refl _, trivial⟩ ⟨⟨_, rfl, .refl _⟩, ⟨_, rfl, .cells (.cons (.refl _) (.cons (.refl _) (.cons (.own List.mem_cons_self (by simp only [List.length_map, List.length_range])) (.refl _))))⟩, trivial⟩ ⟨rfl, (by rw [List.map_map]; exact Clo.map (fun y_ => fPth ((tPth w) y_)) _), rfl, trivial⟩ (rfl) ?_
  refine LoopOK.conv (Conv.empOwnBox (F_world_told, 4) 3 rfl rfl (F_world_told, 91) rfl T_api_Door 7) ?_
  refine LoopOK.weak _ _ ?_ ?_ ?_ (LoopOK.ind (fun i : Nat => w.doors.length - i) (fun i => [(1, .pp (cWld w)), (2, .ref (F_world_told, 2) 0), (3, .pp (cNms w.names)), (4, .ref (F_world_told, 4) 0), (59, .lst 6 (w.doors.map cDorO)), (60, .int .i64 (w.doors.map cDorO).length), (61, .int .i64 i)]) (fun i => [((F_world_told, 2), .cells T_api_Sheet (zcells ty_api_Sheet)), ((F_world_told, 4), .cells T_api_Sheet [.int .i64 w.hor, .lst 1 (w.names.stops.map cS), .lst 4 (((List.range w.paths.length).map (tPth w)).map cPth), (.own (F_world_told, 91) i), .emp, .emp, .emp]), ((F_world_told, 91), .row T_api_Door 7 (((List.range i).map (tDor w)).map cDor))]) (fun i => i ≤ w.doors.length) ?_ 0 (by omega))
  · exact ⟨rfl, rfl, rfl, rfl, rfl, rfl, rfl, trivial⟩
  · exact ⟨rfl, rfl, rfl, trivial⟩
  · exact chk_mk ⟨rfl, rfl, rfl, rfl, rfl, rfl, rfl, trivial⟩ ⟨rfl, rfl, cloX_row (l := (0, 0)) (e := 0) (sz := 0) (by rw [List.map_map]; exact Clo.map (fun y_ => fDor ((tDor w) y_)) _), trivial⟩ rfl
  intro i2 hi2 IH
  refine LoopOK.round hTh hMx ?_
  conv => whnf
  refine cond_split (fun h => ?_) (fun hz2 => ?_)
  · have hlt := lt_of_dec h
    have hA : inB (w.doors.getD i2 ⟨0, 0, 0, nil0⟩).a w.names.stops.length = true ∧ inB (w.doors.getD i2 ⟨0, 0, 0, nil0⟩).b w.names.stops.length = true := by have := hs.doorA _ (List.getElem_mem hlt); simpa [hlt] using this
    conv => whnf
    refine IndexTo.at (map_atD cDorO ⟨0, 0, 0, nil0⟩ hlt) ?_
    conv => whnf
    refine IndexTo.at (map_atD cS [] (show i2 < w.names.doors.length by have := hs.doors; omega)) ?_
    conv => whnf
    refine IndexTo.atD cS [] (inB_spec hA.1).1 (inB_spec hA.1).2 ?_
    conv => whnf
    refine IndexTo.atD cS [] (inB_spec hA.2).1 (inB_spec hA.2).2 ?_
    conv => whnf
    refine ⟨by simp only [List.length_map, List.length_range], by simp only [List.length_cons, List.length_nil]; omega, ?_⟩
    conv => whnf
    refine ⟨by kernel_rfl, ?_⟩
    conv => whnf
    refine WrapTo.i64 (by omega) ?_
    conv => whnf
    refine LoopOK.weak _ _ ?_ ?_ ?_ (IH (i2 + 1) (by omega) (by omega))
    · exact ⟨rfl, rfl, rfl, rfl, rfl, rfl, rfl, trivial⟩
    · exact ⟨rfl, rfl, congrArg (fun z => some (ABox.row T_api_Door 7 z)) (map_range_succ), trivial⟩
    · exact chk_mk ⟨rfl, rfl, rfl, rfl, rfl, rfl, rfl, trivial⟩ ⟨rfl, rfl, cloX_row (l := (0, 0)) (e := 0) (sz := 0) (by rw [List.map_map]; exact Clo.map (fun y_ => fDor ((tDor w) y_)) _), trivial⟩ rfl
  have hge2 := le_of_dec hz2
  conv => whnf
  obtain rfl : i2 = w.doors.length := by omega
  refine LoopOK.less [((F_world_told, 91), .row T_api_Door 7 (((List.range w.doors.length).map (tDor w)).map cDor))] [(1, .pp (cWld w)), (2, .ref (F_world_told, 2) 0), (3, .pp (cNms w.names)), (4, .ref (F_world_told, 4) 0), (95, .lst 3 (w.routes.map cRteO)), (96, .int .i64 (w.routes.map cRteO).length), (97, .int .i64 0)] [((F_world_told, 2), .cells T_api_Sheet (zcells ty_api_Sheet)), ((F_world_told, 4), .cells T_api_Sheet [.int .i64 w.hor, .lst 1 (w.names.stops.map cS), .lst 4 (((List.range w.paths.length).map (tPth w)).map cPth), (.lst 7 (((List.range w.doors.length).map (tDor w)).map cDor)), .emp, .emp, .emp])] ⟨.refl _, .refl _, .refl _, .refl _, .refl _, .refl _, .refl _, trivial⟩ ⟨⟨_, rfl, .refl _⟩, ⟨_, rfl, .cells (.cons (.refl _) (.cons (.refl _) (.cons (.refl _) (.cons (.own List.mem_cons_self (by simp only [List.length_map, List.length_range])) (.refl _)))))⟩, trivial⟩ ⟨rfl, (by rw [List.map_map]; exact Clo.map (fun y_ => fDor ((tDor w) y_)) _), rfl, trivial⟩ (rfl) ?_
  refine LoopOK.conv (Conv.empOwnBox (F_world_told, 4) 4 rfl rfl (F_world_told, 121) rfl T_api_Route 4) ?_
  refine LoopOK.weak _ _ ?_ ?_ ?_ (LoopOK.ind (fun i : Nat => w.routes.length - i) (fun i => [(1, .pp (cWld w)), (2, .ref (F_world_told, 2) 0), (3, .pp (cNms w.names)), (4, .ref (F_world_told, 4) 0), (95, .lst 3 (w.routes.map cRteO)), (96, .int .i64 (w.routes.map cRteO).length), (97, .int .i64 i)]) (fun i => [((F_world_told, 2), .cells T_api_Sheet (zcells ty_api_Sheet)), ((F_world_told, 4), .cells T_api_Sheet [.int .i64 w.hor, .lst 1 (w.names.stops.map cS), .lst 4 (((List.range w.paths.length).map (tPth w)).map cPth), .lst 7 (((List.range w.doors.length).map (tDor w)).map cDor), (.own (F_world_told, 121) i), .emp, .emp]), ((F_world_told, 121), .row T_api_Route 4 (((List.range i).map (tRte w)).map cRte))]) (fun i => i ≤ w.routes.length) ?_ 0 (by omega))
  · exact ⟨rfl, rfl, rfl, rfl, rfl, rfl, rfl, trivial⟩
  · exact ⟨rfl, rfl, rfl, trivial⟩
  · exact chk_mk ⟨rfl, rfl, rfl, rfl, rfl, rfl, rfl, trivial⟩ ⟨rfl, rfl, cloX_row (l := (0, 0)) (e := 0) (sz := 0) (by rw [List.map_map]; exact Clo.map (fun y_ => fRte ((tRte w) y_)) _), trivial⟩ rfl
  intro i3 hi3 IH
  refine LoopOK.round hTh hMx ?_
  conv => whnf
  refine cond_split (fun h => ?_) (fun hz3 => ?_)
  · have hlt := lt_of_dec h
    have hA : ∀ s ∈ (w.routes.getD i3 ⟨[], [], []⟩).stops, inB s w.names.stops.length = true := by have := hs.routeA _ (List.getElem_mem hlt); simpa [hlt] using this
    have r0 : RteOFits (w.routes.getD i3 ⟨[], [], []⟩) := by have := hw.each _ (List.getElem_mem hlt); simpa [hlt] using this
    have r1 := r0.stops
    have r2 := r0.rides
    have r3 := r0.stays
    conv => whnf
    refine IndexTo.at (map_atD cRteO ⟨[], [], []⟩ hlt) ?_
    conv => whnf
    refine IndexTo.at (map_atD cS [] (show i3 < w.names.routes.length by have := hs.routes; omega)) ?_
    conv => whnf
    refine CallTo.fn (m_world_all_int_string G _ _ (fun s => w.names.stops.getD s.toNat []) (fun s hs2 => MeetsV.of (m_told_1 G w.names s (hA s hs2))) rfl (by omega)) ?_
    conv => whnf
    refine CallTo.fn (m_slices_Clone_int64_int64 G _ (by omega)) ?_
    conv => whnf
    refine CallTo.fn (m_slices_Clone_int64_int64 G _ (by omega)) ?_
    conv => whnf
    refine ⟨by simp only [List.length_map, List.length_range], by simp only [List.length_cons, List.length_nil]; omega, ?_⟩
    conv => whnf
    refine ⟨by kernel_rfl, ?_⟩
    conv => whnf
    refine WrapTo.i64 (by omega) ?_
    conv => whnf
    refine LoopOK.weak _ _ ?_ ?_ ?_ (IH (i3 + 1) (by omega) (by omega))
    · exact ⟨rfl, rfl, rfl, rfl, rfl, rfl, rfl, trivial⟩
    · exact ⟨rfl, rfl, congrArg (fun z => some (ABox.row T_api_Route 4 z)) (map_range_succ), trivial⟩
    · exact chk_mk ⟨rfl, rfl, rfl, rfl, rfl, rfl, rfl, trivial⟩ ⟨rfl, rfl, cloX_row (l := (0, 0)) (e := 0) (sz := 0) (by rw [List.map_map]; exact Clo.map (fun y_ => fRte ((tRte w) y_)) _), trivial⟩ rfl
  have hge3 := le_of_dec hz3
  conv => whnf
  obtain rfl : i3 = w.routes.length := by omega
  refine LoopOK.less [((F_world_told, 121), .row T_api_Route 4 (((List.range w.routes.length).map (tRte w)).map cRte))] [(1, .pp (cWld w)), (2, .ref (F_world_told, 2) 0), (3, .pp (cNms w.names)), (4, .ref (F_world_told, 4) 0), (125, .lst 4 (w.trips.map cTrpO)), (126, .int .i64 (w.trips.map cTrpO).length), (127, .int .i64 0)] [((F_world_told, 2), .cells T_api_Sheet (zcells ty_api_Sheet)), ((F_world_told, 4), .cells T_api_Sheet [.int .i64 w.hor, .lst 1 (w.names.stops.map cS), .lst 4 (((List.range w.paths.length).map (tPth w)).map cPth), .lst 7 (((List.range w.doors.length).map (tDor w)).map cDor), (.lst 4 (((List.range w.routes.length).map (tRte w)).map cRte)), .emp, .emp])] ⟨.refl _, .refl _, .refl _, .refl _, .refl _, .refl _, .refl _, trivial⟩ ⟨⟨_, rfl, .refl _⟩, ⟨_, rfl, .cells (.cons (.refl _) (.cons (.refl _) (.cons (.refl _) (.cons (.refl _) (.cons (.own List.mem_cons_self (by simp only [List.length_map, List.length_range])) (.refl _))))))⟩, trivial⟩ ⟨rfl, (by rw [List.map_map]; exact Clo.map (fun y_ => fRte ((tRte w) y_)) _), rfl, trivial⟩ (rfl) ?_
  refine LoopOK.conv (Conv.empOwnBox (F_world_told, 4) 5 rfl rfl (F_world_told, 153) rfl T_api_Trip 5) ?_
  refine LoopOK.weak _ _ ?_ ?_ ?_ (LoopOK.ind (fun i : Nat => w.trips.length - i) (fun i => [(1, .pp (cWld w)), (2, .ref (F_world_told, 2) 0), (3, .pp (cNms w.names)), (4, .ref (F_world_told, 4) 0), (125, .lst 4 (w.trips.map cTrpO)), (126, .int .i64 (w.trips.map cTrpO).length), (127, .int .i64 i)]) (fun i => [((F_world_told, 2), .cells T_api_Sheet (zcells ty_api_Sheet)), ((F_world_told, 4), .cells T_api_Sheet [.int .i64 w.hor, .lst 1 (w.names.stops.map cS), .lst 4 (((List.range w.paths.length).map (tPth w)).map cPth), .lst 7 (((List.range w.doors.length).map (tDor w)).map cDor), .lst 4 (((List.range w.routes.length).map (tRte w)).map cRte), (.own (F_world_told, 153) i), .emp]), ((F_world_told, 153), .row T_api_Trip 5 (((List.range i).map (tTrp w)).map cTrp))]) (fun i => i ≤ w.trips.length) ?_ 0 (by omega))
  · exact ⟨rfl, rfl, rfl, rfl, rfl, rfl, rfl, trivial⟩
  · exact ⟨rfl, rfl, rfl, trivial⟩
  · exact chk_mk ⟨rfl, rfl, rfl, rfl, rfl, rfl, rfl, trivial⟩ ⟨rfl, rfl, cloX_row (l := (0, 0)) (e := 0) (sz := 0) (by rw [List.map_map]; exact Clo.map (fun y_ => fTrp ((tTrp w) y_)) _), trivial⟩ rfl
  intro i4 hi4 IH
  refine LoopOK.round hTh hMx ?_
  conv => whnf
  refine cond_split (fun h => ?_) (fun hz4 => ?_)
  · have hlt := lt_of_dec h
    have hA : inB (w.trips.getD i4 ⟨0, 0, 0, 0⟩).route w.names.routes.length = true := by have := hs.tripA _ (List.getElem_mem hlt); simpa [hlt] using this
    conv => whnf
    refine IndexTo.at (map_atD cTrpO ⟨0, 0, 0, 0⟩ hlt) ?_
    conv => whnf
    refine IndexTo.at (map_atD cS [] (show i4 < w.names.trips.length by have := hs.trips; omega)) ?_
    conv => whnf
    refine IndexTo.atD cS [] (inB_spec hA).1 (inB_spec hA).2 ?_
    conv => whnf
    refine ⟨by simp only [List.length_map, List.length_range], by simp only [List.length_cons, List.length_nil]; omega, ?_⟩
    conv => whnf
    refine ⟨by kernel_rfl, ?_⟩
    conv => whnf
    refine WrapTo.i64 (by omega) ?_
    conv => whnf
    refine LoopOK.weak _ _ ?_ ?_ ?_ (IH (i4 + 1) (by omega) (by omega))
    · exact ⟨rfl, rfl, rfl, rfl, rfl, rfl, rfl, trivial⟩
    · exact ⟨rfl, rfl, congrArg (fun z => some (ABox.row T_api_Trip 5 z)) (map_range_succ), trivial⟩
    · exact chk_mk ⟨rfl, rfl, rfl, rfl, rfl, rfl, rfl, trivial⟩ ⟨rfl, rfl, cloX_row (l := (0, 0)) (e := 0) (sz := 0) (by rw [List.map_map]; exact Clo.map (fun y_ => fTrp ((tTrp w) y_)) _), trivial⟩ rfl
  have hge4 := le_of_dec hz4
  conv => whnf
  obtain rfl : i4 = w.trips.length := by omega
  refine LoopOK.less [((F_world_told, 153), .row T_api_Trip 5 (((List.range w.trips.length).map (tTrp w)).map cTrp))] [(1, .pp (cWld w)), (2, .ref (F_world_told, 2) 0), (3, .pp (cNms w.names)), (4, .ref (F_world_told, 4) 0), (157, .lst 5 (w.hazards.map cHzdO)), (158, .int .i64 (w.hazards.map cHzdO).length), (159, .int .i64 0)] [((F_world_told, 2), .cells T_api_Sheet (zcells ty_api_Sheet)), ((F_world_told, 4), .cells T_api_Sheet [.int .i64 w.hor, .lst 1 (w.names.stops.map cS), .lst 4 (((List.range w.paths.length).map (tPth w)).map cPth), .lst 7 (((List.range w.doors.length).map (tDor w)).map cDor), .lst 4 (((List.range w.routes.length).map (tRte w)).map cRte), (.lst 5 (((List.range w.trips.length).map (tTrp w)).map cTrp)), .emp])] ⟨.refl _, .refl _, .refl _, .refl _, .refl _, .refl _, .refl _, trivial⟩ ⟨⟨_, rfl, .refl _⟩, ⟨_, rfl, .cells (.cons (.refl _) (.cons (.refl _) (.cons (.refl _) (.cons (.refl _) (.cons (.refl _) (.cons (.own List.mem_cons_self (by simp only [List.length_map, List.length_range])) (.refl _)))))))⟩, trivial⟩ ⟨rfl, (by rw [List.map_map]; exact Clo.map (fun y_ => fTrp ((tTrp w) y_)) _), rfl, trivial⟩ (rfl) ?_
  refine LoopOK.conv (Conv.empOwnBox (F_world_told, 4) 6 rfl rfl (F_world_told, 186) rfl T_api_Hazard 5) ?_
  refine LoopOK.weak _ _ ?_ ?_ ?_ (LoopOK.ind (fun i : Nat => w.hazards.length - i) (fun i => [(1, .pp (cWld w)), (2, .ref (F_world_told, 2) 0), (3, .pp (cNms w.names)), (4, .ref (F_world_told, 4) 0), (157, .lst 5 (w.hazards.map cHzdO)), (158, .int .i64 (w.hazards.map cHzdO).length), (159, .int .i64 i)]) (fun i => [((F_world_told, 2), .cells T_api_Sheet (zcells ty_api_Sheet)), ((F_world_told, 4), .cells T_api_Sheet [.int .i64 w.hor, .lst 1 (w.names.stops.map cS), .lst 4 (((List.range w.paths.length).map (tPth w)).map cPth), .lst 7 (((List.range w.doors.length).map (tDor w)).map cDor), .lst 4 (((List.range w.routes.length).map (tRte w)).map cRte), .lst 5 (((List.range w.trips.length).map (tTrp w)).map cTrp), (.own (F_world_told, 186) i)]), ((F_world_told, 186), .row T_api_Hazard 5 (((List.range i).map (tHzd w)).map cHzd))]) (fun i => i ≤ w.hazards.length) ?_ 0 (by omega))
  · exact ⟨rfl, rfl, rfl, rfl, rfl, rfl, rfl, trivial⟩
  · exact ⟨rfl, rfl, rfl, trivial⟩
  · exact chk_mk ⟨rfl, rfl, rfl, rfl, rfl, rfl, rfl, trivial⟩ ⟨rfl, rfl, cloX_row (l := (0, 0)) (e := 0) (sz := 0) (by rw [List.map_map]; exact Clo.map (fun y_ => fHzd ((tHzd w) y_)) _), trivial⟩ rfl
  intro i5 hi5 IH
  refine LoopOK.round hTh hMx ?_
  conv => whnf
  refine cond_split (fun h => ?_) (fun hz5 => ?_)
  · have hlt := lt_of_dec h
    have hA : inB (w.hazards.getD i5 ⟨false, 0, nil0⟩).on (if (w.hazards.getD i5 ⟨false, 0, nil0⟩).stop then w.names.stops.length else w.names.paths.length) = true := by have := hs.hazardA _ (List.getElem_mem hlt); simpa [hlt] using this
    conv => whnf
    refine IndexTo.at (map_atD cHzdO ⟨false, 0, nil0⟩ hlt) ?_
    conv => whnf
    refine cond_split (fun hc => ?_) (fun hc => ?_)
    · have e1 : tHzd w i5 = ⟨w.names.hazards.getD i5 [], w.names.stops.getD (w.hazards.getD i5 ⟨false, 0, nil0⟩).on.toNat [], (w.hazards.getD i5 ⟨false, 0, nil0⟩).tm⟩ := by unfold tHzd; simp only; rw [if_pos hc]
      have hB : inB (w.hazards.getD i5 ⟨false, 0, nil0⟩).on w.names.stops.length = true := by rw [if_pos hc] at hA; exact hA
      conv => whnf
      refine IndexTo.at (map_atD cS [] (show i5 < w.names.hazards.length by have := hs.hazards; omega)) ?_
      conv => whnf
      refine IndexTo.atD cS [] (inB_spec hB).1 (inB_spec hB).2 ?_
      conv => whnf
      refine ⟨by simp only [List.length_map, List.length_range], by simp only [List.length_cons, List.length_nil]; omega, ?_⟩
      conv => whnf
      refine ⟨by kernel_rfl, ?_⟩
      conv => whnf
      refine WrapTo.i64 (by omega) ?_
      conv => whnf
      refine LoopOK.weak _ _ ?_ ?_ ?_ (IH (i5 + 1) (by omega) (by omega))
      · exact ⟨rfl, rfl, rfl, rfl, rfl, rfl, rfl, trivial⟩
      · exact ⟨rfl, rfl, congrArg (fun z => some (ABox.row T_api_Hazard 5 z)) (by rw [← map_range_succ, e1]; rfl), trivial⟩
      · exact chk_mk ⟨rfl, rfl, rfl, rfl, rfl, rfl, rfl, trivial⟩ ⟨rfl, rfl, cloX_row (l := (0, 0)) (e := 0) (sz := 0) (by rw [List.map_map]; exact Clo.map (fun y_ => fHzd ((tHzd w) y_)) _), trivial⟩ rfl
    · have e1 : tHzd w i5 = ⟨w.names.hazards.getD i5 [], w.names.paths.getD (w.hazards.getD i5 ⟨false, 0, nil0⟩).on.toNat [], (w.hazards.getD i5 ⟨false, 0, nil0⟩).tm⟩ := by unfold tHzd; simp only; rw [if_neg (by rw [hc]; exact Bool.false_ne_true)]
      have hB : inB (w.hazards.getD i5 ⟨false, 0, nil0⟩).on w.names.paths.length = true := by rw [if_neg (by rw [hc]; exact Bool.false_ne_true)] at hA; exact hA
      conv => whnf
      refine IndexTo.at (map_atD cS [] (show i5 < w.names.hazards.length by have := hs.hazards; omega)) ?_
      conv => whnf
      refine IndexTo.atD cS [] (inB_spec hB).1 (inB_spec hB).2 ?_
      conv => whnf
      refine ⟨by simp only [List.length_map, List.length_range], by simp only [List.length_cons, List.length_nil]; omega, ?_⟩
      conv => whnf
      refine ⟨by kernel_rfl, ?_⟩
      conv => whnf
      refine WrapTo.i64 (by omega) ?_
      conv => whnf
      refine LoopOK.weak _ _ ?_ ?_ ?_ (IH (i5 + 1) (by omega) (by omega))
      · exact ⟨rfl, rfl, rfl, rfl, rfl, rfl, rfl, trivial⟩
      · exact ⟨rfl, rfl, congrArg (fun z => some (ABox.row T_api_Hazard 5 z)) (by rw [← map_range_succ, e1]; rfl), trivial⟩
      · exact chk_mk ⟨rfl, rfl, rfl, rfl, rfl, rfl, rfl, trivial⟩ ⟨rfl, rfl, cloX_row (l := (0, 0)) (e := 0) (sz := 0) (by rw [List.map_map]; exact Clo.map (fun y_ => fHzd ((tHzd w) y_)) _), trivial⟩ rfl
  have hge5 := le_of_dec hz5
  conv => whnf
  obtain rfl : i5 = w.hazards.length := by omega
  refine CodeTo.less [((F_world_told, 186), .row T_api_Hazard 5 (((List.range w.hazards.length).map (tHzd w)).map cHzd))] [(1, .pp (cWld w)), (2, .ref (F_world_told, 2) 0), (3, .pp (cNms w.names)), (4, .ref (F_world_told, 4) 0)] [((F_world_told, 2), .cells T_api_Sheet (zcells ty_api_Sheet)), ((F_world_told, 4), .cells T_api_Sheet [.int .i64 w.hor, .lst 1 (w.names.stops.map cS), .lst 4 (((List.range w.paths.length).map (tPth w)).map cPth), .lst 7 (((List.range w.doors.length).map (tDor w)).map cDor), .lst 4 (((List.range w.routes.length).map (tRte w)).map cRte), .lst 5 (((List.range w.trips.length).map (tTrp w)).map cTrp), (.lst 5 (((List.range w.hazards.length).map (tHzd w)).map cHzd))])] ⟨.refl _, .refl _, .refl _, .refl _, trivial⟩ ⟨⟨_, rfl, .refl _⟩, ⟨_, rfl, .cells (.cons (.refl _) (.cons (.refl _) (.cons (.refl _) (.cons (.refl _) (.cons (.refl _) (.cons (.refl _) (.cons (.own List.mem_cons_self (by simp only [List.length_map, List.length_range])) (.refl _))))))))⟩, trivial⟩ ⟨rfl, (by rw [List.map_map]; exact Clo.map (fun y_ => fHzd ((tHzd w) y_)) _), rfl, trivial⟩ (rfl) ?_
  refine CodeTo.go hTh hMx ?_
  conv => whnf
  exact Fin.pure hTh [.agg (cSht (toldS w))] rfl rfl rfl
end Go.Proofs.YtelpibkbcljdlaaGreatDoor
/- Windows: the iterator of windows, windows joined, the windows of times. -/
set_option linter.unusedVariables false
set_option linter.unusedSimpArgs false
set_option maxRecDepth 10000
namespace Go.Ab
def winA (t : Tms) (i : Nat) : Wn := ⟨t.fr + i * t.ev, t.fr + i * t.ev + t.ln⟩
def tmsOK (t : Tms) : Bool := tickOK t.fr && decide (1 ≤ t.ln) && decide (t.ln ≤ 1099511627776) && (t.ev == 0 || (decide (t.ln ≤ t.ev) && decide (t.ev ≤ 1099511627776)))
theorem tmsOK_spec {t : Tms} (h : tmsOK t = true) : 0 ≤ t.fr ∧ t.fr ≤ 1099511627776 ∧ 1 ≤ t.ln ∧ t.ln ≤ 1099511627776 ∧ 0 ≤ t.ev ∧ t.ev ≤ 1099511627776 := by
  simp [tmsOK, tickOK] at h
  omega
theorem mul_bd {a b : Int} {A B : Int} (h0 : 0 ≤ a) (h1 : a ≤ A) (h2 : 0 ≤ b) (h3 : b ≤ B) : 0 ≤ a * b ∧ a * b ≤ A * B :=
  ⟨Int.mul_nonneg h0 h2, Int.mul_le_mul h1 h3 h2 (by omega)⟩
def joinStep (out : List Wn) (w : Wn) : List Wn := if 0 < out.length ∧ w.fr ≤ (out.getD (out.length - 1) ⟨0, 0⟩).to then out.set (out.length - 1) ⟨(out.getD (out.length - 1) ⟨0, 0⟩).fr, max (out.getD (out.length - 1) ⟨0, 0⟩).to w.to⟩ else out ++ [w]
def joinN (w : Nat → Wn) : Nat → List Wn
  | 0 => []
  | i + 1 => joinStep (joinN w i) (w i)
theorem joinStep_le (out : List Wn) (w : Wn) : (joinStep out w).length ≤ out.length + 1 := by
  unfold joinStep
  split <;> simp
theorem joinN_le (w : Nat → Wn) : ∀ n, (joinN w n).length ≤ n
  | 0 => Nat.le_refl _
  | n + 1 => Nat.le_trans (joinStep_le _ _) (Nat.succ_le_succ (joinN_le w n))
end Go.Ab
namespace Go.Proofs.YtelpibkbcljdlaaGreatDoor
open Go Go.Ab
theorem m_window_each (G : GlP) (t : Tms) (n : Int) : Meets Pg G F_window_each [.agg (cTms t), .int .i64 n] [] (.fn (.func F_window_each_1) [] [.pp [.int .i64 n], .pp (cTms t)]) [] := by
  refine meets_pure (F := fe_window_each) hTh hMx func_window_each rfl call_window_each rfl rfl rfl ?_
  conv => whnf
  refine Fin.less [((F_window_each, 2), .cells T_api_Times (cTms t)), ((F_window_each, 3), .cells T_i64 [.int .i64 n])] [(4, .fn (.func F_window_each_1) [] [.pp [.int .i64 n], .pp (cTms t)])] [] ⟨.fn (.refl _) (.cons (.ref (List.mem_cons_of_mem _ List.mem_cons_self)) (.cons (.ref List.mem_cons_self) (.refl _))), trivial⟩ trivial ⟨rfl, rfl, rfl, rfl, rfl, rfl, trivial⟩ rfl ?_
  exact Fin.one hTh rfl (rfl) rfl
theorem m_window_each_1 (G : GlP) (t : Tms) (n : Nat) (ht : tmsOK t = true) (hn : n ≤ 256) : Iter Pg G F_window_each_1 [] [.pp [.int .i64 n], .pp (cTms t)] n (fun i => [.agg (cWn (winA t i))]) := by
  intro lr S k fin hk hS hT hE
  have hb := tmsOK_spec ht
  refine meets_iter (F := fe_window_each_1) hTh hMx func_window_each_1 rfl call_window_each_1 rfl hS (hE.elim (fun h => ⟨_, h.2⟩) fun h => ⟨_, h.2.1⟩) (by simp [cloL, cloB, hS.here]) ?_
  conv => whnf
  refine LoopOK.forget [(0, .yv lr), (1, .pp [.int .i64 n]), (2, .pp (cTms t)), (6, .int .i64 n), (7, .int .i64 (0 : Nat))] ⟨rfl, rfl, rfl, rfl, rfl, trivial⟩ ?_
  refine LoopOK.ind (fun i : Nat => n - i) (fun i => [(0, .yv lr), (1, .pp [.int .i64 n]), (2, .pp (cTms t)), (6, .int .i64 n), (7, .int .i64 i)]) S (fun i => i ≤ k) ?_ 0 (by omega)
  intro i hi IH
  refine LoopOK.round hTh hMx ?_
  conv => whnf
  refine cond_split (fun h => ?_) (fun hz => ?_)
  · have hlt : i < n := by simpa using h
    have hmb := mul_bd (a := (i : Int)) (A := 256) (by omega) (by omega) hb.2.2.2.2.1 hb.2.2.2.2.2
    conv => whnf
    refine WrapTo.i64 (by omega) ?_
    conv => whnf
    refine WrapTo.i64 (by omega) ?_
    conv => whnf
    refine WrapTo.i64 (by omega) ?_
    conv => whnf
    rcases Nat.lt_or_ge i k with hik | hik
    · refine CallTo.yield (hT i hik) (hS.sup _ _) ?_
      simp only [consL_eq]
      conv => whnf
      refine WrapTo.i64 (by omega) ?_
      conv => whnf
      refine LoopOK.conv (Conv.sup (hS.sup _ _)) ?_
      refine LoopOK.forget _ ?_ (IH (i + 1) (by omega) (by omega))
      exact ⟨rfl, rfl, rfl, rfl, rfl, trivial⟩
    · have hik : i = k := by omega
      subst hik
      rcases hE with ⟨h1, h2⟩ | ⟨h1, h2, h3⟩
      · omega
      · subst h2
        refine CallTo.yield h3 (hS.sup _ _) ?_
        simp only [consL_eq]
        conv => whnf
        refine Fin.conv (Conv.sup (hS.sup _ _)) ?_
        exact Fin.all hTh rfl (hS.sup _ _) (hS.clo _)
  · have hge : n ≤ i := by simpa using hz
    conv => whnf
    rcases hE with ⟨h1, h2⟩ | ⟨h1, h2, h3⟩
    · subst h2
      have : i = n := by omega
      subst this
      exact Fin.all hTh rfl (hS.sup _ _) (hS.clo _)
    · omega
def jLr : Lbl := (F_window_joined, 1000)
def jB (xs : List Wn) : BL := [((F_window_joined, 2), .cells T_S_api_Win [.own (F_window_joined, 37) xs.length]), ((F_window_joined, 37), .row T_api_Win 2 (xs.map cWn))]
noncomputable def jS (st : LoopState) (j : Option Code) (xs : List Wn) : BL := (jLr, .lrec st j (ld_window_joined 0) [(2, .ref (F_window_joined, 2) 0)]) :: jB xs
theorem jClo (st : LoopState) (j : Option Code) (xs : List Wn) : AllL (keyB (jS st j xs)) (jS st j xs) := ⟨rfl, rfl, cloX_row (l := jLr) (e := 0) (sz := 2) (Clo.map fWn _), trivial⟩
theorem y_window_joined (G : GlP) (xs : List Wn) (w : Wn) (hl : xs.length ≤ 4096) : MeetsV Pg G (.yv jLr) [.agg (cWn w)] (jS .ready none xs) (.bool true) (jS .ready none (joinStep xs w)) := by
  refine MeetsV.yield (F := fe_window_joined) (jump := none) hTh hMx rfl rfl rfl rfl (jClo _ _ _) rfl (jClo _ _ _) rfl rfl fun b => ?_
  conv => whnf
  refine ⟨rfl, ?_⟩
  conv => whnf
  refine WrapTo.i64 (by omega) ?_
  conv => whnf
  have hlw : (xs.map cWn).length = xs.length := List.length_map _
  have hall : ∀ x ∈ xs.map cWn, x.length = 2 := fun x hx => by
    obtain ⟨y, _, rfl⟩ := List.mem_map.1 hx
    rfl
  refine cond_split (fun h => ?_) (fun h => ?_)
  · have hn : 0 < xs.length := by simp at h; omega
    have hat : (xs.map cWn)[xs.length - 1]? = some (cWn (xs.getD (xs.length - 1) ⟨0, 0⟩)) := map_atD cWn _ (by omega)
    conv => whnf
    refine OpTo.rowAt hTh rfl rfl rfl rfl rfl rfl rfl hlw rfl (by omega) (by omega) ?_
    conv => whnf
    refine OpTo.rowField hTh rfl rfl rfl rfl hlw ?_
    conv => whnf
    refine OpTo.rowLoad hTh (xs.length - 1) 1 rfl rfl rfl rfl hlw hall hat (by dsimp only; omega) (by decide) (by decide) rfl ?_
    conv => whnf
    refine ⟨by kernel_rfl, ?_⟩
    conv => whnf
    refine cond_split (fun h2 => ?_) (fun h2 => ?_)
    · have hj : joinStep xs w = xs.set (xs.length - 1) ⟨(xs.getD (xs.length - 1) ⟨0, 0⟩).fr, max (xs.getD (xs.length - 1) ⟨0, 0⟩).to w.to⟩ := by
        unfold joinStep
        rw [if_pos ⟨hn, by simpa using h2⟩]
      conv => whnf
      refine OpTo.rowAt hTh rfl rfl rfl rfl rfl rfl rfl hlw rfl (by omega) (by omega) ?_
      conv => whnf
      refine OpTo.rowField hTh rfl rfl rfl rfl hlw ?_
      conv => whnf
      refine OpTo.rowLoad hTh (xs.length - 1) 1 rfl rfl rfl rfl hlw hall hat (by dsimp only; omega) (by decide) (by decide) rfl ?_
      conv => whnf
      refine OpTo.max rfl rfl rfl ?_
      conv => whnf
      refine OpTo.rowAt hTh rfl rfl rfl rfl rfl rfl rfl hlw rfl (by omega) (by omega) ?_
      conv => whnf
      refine OpTo.rowField hTh rfl rfl rfl rfl hlw ?_
      conv => whnf
      refine OpTo.rowStore hTh (xs.length - 1) 1 ((joinStep xs w).map cWn) rfl rfl rfl rfl hlw rfl rfl hall hat (by dsimp only; omega) (by decide) (by rw [hj, List.map_set]; rfl) ?_
      conv => whnf
      refine ⟨by kernel_rfl, ?_⟩
      conv => whnf
      exact ⟨rfl, rfl, congrArg (fun k => some (ABox.cells T_S_api_Win [.own (F_window_joined, 37) k])) (by rw [hj, List.length_set]), rfl, trivial⟩
    · have hj : joinStep xs w = xs ++ [w] := by
        unfold joinStep
        rw [if_neg fun hh => of_decide_eq_false h2 hh.2]
      conv => whnf
      refine ⟨hlw, by simp; omega, ?_⟩
      conv => whnf
      exact ⟨rfl, rfl, congrArg (fun k => some (ABox.cells T_S_api_Win [.own (F_window_joined, 37) k])) (by rw [hj, List.length_append]; rfl), congrArg (fun z => some (ABox.row T_api_Win 2 z)) (by rw [hj, List.map_append]; rfl), trivial⟩
  · have hj : joinStep xs w = xs ++ [w] := by
      unfold joinStep
      rw [if_neg (by simp at h; omega)]
    conv => whnf
    refine ⟨by kernel_rfl, ?_⟩
    conv => whnf
    refine ⟨hlw, by simp; omega, ?_⟩
    conv => whnf
    exact ⟨rfl, rfl, congrArg (fun k => some (ABox.cells T_S_api_Win [.own (F_window_joined, 37) k])) (by rw [hj, List.length_append]; rfl), congrArg (fun z => some (ABox.row T_api_Win 2 z)) (by rw [hj, List.map_append]; rfl), trivial⟩
theorem m_window_joined (G : GlP) (f : FuncId) (first cap : List AV) (n : Nat) (w : Nat → Wn) (hI : Iter Pg G f first cap n (fun i => [.agg (cWn (w i))])) (hf : Nat.beq F_window_joined f = false) (hc : cloB (fun _ => false) (.fn (.func f) first cap) = true) (hn : n ≤ 4096) :
    Meets Pg G F_window_joined [.fn (.func f) first cap] [] (.lst 2 ((joinN w n).map cWn)) [] := by
  refine meets_pure (F := fe_window_joined) hTh hMx func_window_joined rfl call_window_joined rfl (by simp only [cloL, cloB_free hc, Bool.and_true]) rfl ?_
  conv => whnf
  refine CodeTo.conv (Conv.empOwnBox (F_window_joined, 2) 0 rfl rfl (F_window_joined, 37) rfl T_api_Win 2) ?_
  refine CodeTo.range rfl rfl jLr rfl [(2, .ref (F_window_joined, 2) 0)] ⟨rfl, trivial⟩ (st := .ready) (jump := none) (fp' := jB []) (gp' := jB (joinN w n)) (r := .tup [])
    (hI jLr (fun i => jS .ready none (joinN w i)) n (jS .ready none (joinN w n)) (Nat.le_refl _) ⟨fun i => jClo _ _ _, fun i l => by simp only [jS, jB, keyB_cons], rfl, fun d => ?_⟩ (fun i hi => y_window_joined G _ _ (Nat.le_trans (joinN_le w i) (by omega))) (.inl ⟨rfl, rfl⟩))
    ⟨rfl, rfl, trivial⟩ rfl (by simp) [(2, .ref (F_window_joined, 2) 0)] (jB (joinN w n)) ⟨rfl, trivial⟩ ⟨rfl, rfl, trivial⟩ (chk_mk ⟨rfl, trivial⟩ ⟨rfl, cloX_row (l := jLr) (e := 0) (sz := 2) (Clo.map fWn _), trivial⟩ rfl) ?_
  · simp [jS, jB, jLr, getL, lbeq, hf]
  conv => whnf
  refine Fin.less [((F_window_joined, 37), .row T_api_Win 2 ((joinN w n).map cWn))] [(2, .ref (F_window_joined, 2) 0)] [((F_window_joined, 2), .cells T_S_api_Win [.lst 2 ((joinN w n).map cWn)])] ⟨.refl _, trivial⟩ ⟨⟨_, rfl, .cells (.cons (.own List.mem_cons_self (by simp)) (.refl _))⟩, trivial⟩ ⟨rfl, Clo.map fWn _, rfl, trivial⟩ rfl ?_
  exact Fin.pure hTh [.lst 2 ((joinN w n).map cWn)] rfl rfl rfl
end Go.Proofs.YtelpibkbcljdlaaGreatDoor
