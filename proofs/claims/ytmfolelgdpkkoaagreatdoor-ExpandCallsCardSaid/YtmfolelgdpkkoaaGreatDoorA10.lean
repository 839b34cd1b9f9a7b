/- A run that leaves at a tick, by the program. -/
import Derived.Test.YtmfolelgdpkkoaaGreatDoorA9
set_option linter.unusedVariables false
set_option linter.unusedSimpArgs false
set_option maxRecDepth 10000
namespace Go.Ab
theorem goR_succ (r : RteO) (a : Int) (k : Nat) : goR r a (k + 1) = (let x := (goR r a k).1 + r.rides.getD k 0; let y := if k < r.stays.length then x + r.stays.getD k 0 else x; (y, (goR r a k).2.1 ++ [x], (goR r a k).2.2 ++ [y])) := rfl
/-- What is known of a route that a run goes. -/
structure RteGo (r : RteO) : Prop where
  rides : ∀ n ∈ r.rides, tickOK n = true
  stays : ∀ n ∈ r.stays, tickOK n = true
  few : r.rides.length ≤ 32
  fews : r.stays.length ≤ 32
end Go.Ab
namespace Go.Proofs.YtmfolelgdpkkoaaGreatDoor
open Go Go.Ab
theorem m_expand_run (G : GlP) (r : RteO) : Meets Pg G F_expand_run [.agg (cRteO r)] [] (.fn (.func F_expand_run_1) [] [.pp (cRteO r)]) [] := by
  refine meets_pure (F := fe_expand_run) hTh hMx func_expand_run rfl call_expand_run rfl rfl rfl ?_
  conv => whnf
  refine Fin.less [((F_expand_run, 1), .cells T_api_RouteOf (cRteO r))] [(2, .fn (.func F_expand_run_1) [] [.pp (cRteO r)])] [] ⟨.fn (.refl _) (.cons (.ref List.mem_cons_self) (.refl _)), trivial⟩ trivial ⟨rfl, rfl, rfl, trivial⟩ rfl ?_
  exact Fin.one hTh rfl (rfl) rfl
theorem m_expand_run_1 (G : GlP) (r : RteO) (a : Int) (ha : tickOK a = true) (hr : RteGo r) : Meets Pg G F_expand_run_1 [.int .i64 a, .pp (cRteO r)] [] (.agg (cRun (runR r 0 0 a))) [] := by
  have hb := tick_bd ha
  have f1 := hr.few
  have f2 := hr.fews
  refine meets_pure (F := { fe_expand_run_1 with rows := [8, 10] }) hTh hMx func_expand_run_1 rfl call_expand_run_1 rfl rfl rfl ?_
  conv => whnf
  refine OpTo.mkRow hTh (F_expand_run_1, 8) rfl rfl rfl rfl rfl (by decide) (by decide) (by decide) (by decide) rfl rfl ?_
  conv => whnf
  refine OpTo.mkRow hTh (F_expand_run_1, 10) rfl rfl rfl rfl rfl (by decide) (by decide) (by decide) (by decide) rfl rfl ?_
  conv => whnf
  refine LoopOK.weak _ _ ?_ ?_ ?_ (LoopOK.ind (fun k : Nat => r.rides.length - k) (fun k => [(0, .int .i64 (goR r a k).1), (1, .pp (cRteO r)), (3, .ref (F_expand_run_1, 3) 0), (4, .ref (F_expand_run_1, 4) 0), (13, .lst 1 (r.rides.map cI)), (14, .int .i64 (r.rides.map cI).length), (15, .int .i64 k)])
    (fun k => [((F_expand_run_1, 3), .cells T_api_Run (zcells ty_api_Run)), ((F_expand_run_1, 4), .cells T_api_Run [.int .i64 0, .int .i64 0, .own (F_expand_run_1, 8) (goR r a k).2.1.length, .own (F_expand_run_1, 10) (goR r a k).2.2.length]), ((F_expand_run_1, 8), .row T_i64 1 ((goR r a k).2.1.map cI)), ((F_expand_run_1, 10), .row T_i64 1 ((goR r a k).2.2.map cI))])
    (fun k => k ≤ r.rides.length) ?_ 0 (by omega))
  · exact ⟨rfl, rfl, rfl, rfl, rfl, rfl, rfl, trivial⟩
  · exact ⟨rfl, rfl, rfl, rfl, trivial⟩
  · rfl
  intro k hk IH
  have hl := goR_len r a k
  have hbd := goR_bd hb hr.rides hr.stays k hk
  have e1 : ((goR r a k).2.1.map cI).length = (goR r a k).2.1.length := List.length_map _
  have e2 : ((goR r a k).2.2.map cI).length = (goR r a k).2.2.length := List.length_map _
  refine LoopOK.round hTh hMx ?_
  conv => whnf
  refine cond_split (fun h => ?_) (fun hz => ?_)
  · have hlt := lt_of_dec h
    have hbd2 := goR_bd hb hr.rides hr.stays (k + 1) hlt
    have hrd := tick_bd (hr.rides _ (getD_in (d := 0) hlt))
    conv => whnf
    refine IndexTo.at (map_atD cI 0 hlt) ?_
    conv => whnf
    refine WrapTo.i64 (by omega) ?_
    conv => whnf
    refine ⟨e1, by simp only [List.length_cons, List.length_nil]; omega, ?_⟩
    conv => whnf
    refine cond_split (fun h1 => ?_) (fun h1 => ?_)
    · have h1' : k < r.stays.length := by simpa using h1
      have hst := tick_bd (hr.stays _ (getD_in (d := 0) h1'))
      have e : goR r a (k + 1) = ((goR r a k).1 + r.rides.getD k 0 + r.stays.getD k 0, (goR r a k).2.1 ++ [(goR r a k).1 + r.rides.getD k 0], (goR r a k).2.2 ++ [(goR r a k).1 + r.rides.getD k 0 + r.stays.getD k 0]) := by
        simp only [goR, if_pos h1']
      conv => whnf
      refine IndexTo.at (map_atD cI 0 h1') ?_
      conv => whnf
      refine WrapTo.i64 (by omega) ?_
      conv => whnf
      refine ⟨e2, by simp only [List.length_cons, List.length_nil]; omega, ?_⟩
      conv => whnf
      refine WrapTo.i64 (by omega) ?_
      conv => whnf
      refine LoopOK.weak _ _ ?_ ?_ ?_ (IH (k + 1) (by omega) hlt)
      · rw [e]; exact ⟨rfl, rfl, rfl, rfl, rfl, rfl, rfl, trivial⟩
      · rw [e]
        exact ⟨rfl, congr2 (fun x y => some (ABox.cells T_api_Run [.int .i64 0, .int .i64 0, .own (F_expand_run_1, 8) x, .own (F_expand_run_1, 10) y])) (by simp) (by simp), congrArg (fun z => some (ABox.row T_i64 1 z)) (by simp [cI]), congrArg (fun z => some (ABox.row T_i64 1 z)) (by simp [cI]), trivial⟩
      · exact chk_mk ⟨rfl, rfl, rfl, rfl, rfl, rfl, rfl, trivial⟩ ⟨rfl, rfl, cloX_row (l := (0, 0)) (e := 0) (sz := 0) (Clo.map fI _), cloX_row (l := (0, 0)) (e := 0) (sz := 0) (Clo.map fI _), trivial⟩ rfl
    · have h1' : ¬ k < r.stays.length := by simpa using h1
      have e : goR r a (k + 1) = ((goR r a k).1 + r.rides.getD k 0, (goR r a k).2.1 ++ [(goR r a k).1 + r.rides.getD k 0], (goR r a k).2.2 ++ [(goR r a k).1 + r.rides.getD k 0]) := by
        simp only [goR, if_neg h1']
      conv => whnf
      refine ⟨e2, by simp only [List.length_cons, List.length_nil]; omega, ?_⟩
      conv => whnf
      refine WrapTo.i64 (by omega) ?_
      conv => whnf
      refine LoopOK.weak _ _ ?_ ?_ ?_ (IH (k + 1) (by omega) hlt)
      · rw [e]; exact ⟨rfl, rfl, rfl, rfl, rfl, rfl, rfl, trivial⟩
      · rw [e]
        exact ⟨rfl, congr2 (fun x y => some (ABox.cells T_api_Run [.int .i64 0, .int .i64 0, .own (F_expand_run_1, 8) x, .own (F_expand_run_1, 10) y])) (by simp) (by simp), congrArg (fun z => some (ABox.row T_i64 1 z)) (by simp [cI]), congrArg (fun z => some (ABox.row T_i64 1 z)) (by simp [cI]), trivial⟩
      · exact chk_mk ⟨rfl, rfl, rfl, rfl, rfl, rfl, rfl, trivial⟩ ⟨rfl, rfl, cloX_row (l := (0, 0)) (e := 0) (sz := 0) (Clo.map fI _), cloX_row (l := (0, 0)) (e := 0) (sz := 0) (Clo.map fI _), trivial⟩ rfl
  · have hge := le_of_dec hz
    obtain rfl : k = r.rides.length := by omega
    conv => whnf
    refine Fin.less [((F_expand_run_1, 8), .row T_i64 1 ((goR r a r.rides.length).2.1.map cI)), ((F_expand_run_1, 10), .row T_i64 1 ((goR r a r.rides.length).2.2.map cI))] [(3, .ref (F_expand_run_1, 3) 0)] [((F_expand_run_1, 3), .cells T_api_Run (cRun (runR r 0 0 a)))] ⟨.refl _, trivial⟩
      ⟨⟨_, rfl, .cells (.cons (.refl _) (.cons (.refl _) (.cons (.own List.mem_cons_self e1) (.cons (.own (List.mem_cons_of_mem _ List.mem_cons_self) e2) (.refl _)))))⟩, trivial⟩ ⟨rfl, Clo.map fI _, rfl, rfl, Clo.map fI _, rfl, trivial⟩ rfl ?_
    exact Fin.pure hTh [.agg (cRun (runR r 0 0 a))] rfl rfl rfl
theorem m_expand_end (G : GlP) (r : Rn) (h : 1 ≤ r.arr.length) (h2 : r.arr.length ≤ 4294967296) : Meets Pg G F_expand_end [.agg (cRun r)] [] (.int .i64 (endR r)) [] := by
  have e1 : (r.arr.map cI).length = r.arr.length := List.length_map _
  refine meets_pure (F := fe_expand_end) hTh hMx func_expand_end rfl call_expand_end rfl rfl rfl ?_
  conv => whnf
  refine WrapTo.i64 (by omega) ?_
  conv => whnf
  refine IndexTo.atD cI 0 (by omega) (by omega) ?_
  conv => whnf
  have e : (((r.arr.map cI).length : Int) - 1).toNat = r.arr.length - 1 := by omega
  rw [e]
  exact Fin.one hTh rfl (rfl) rfl
end Go.Proofs.YtmfolelgdpkkoaaGreatDoor
/- A trip's run by its number, by the program; how many there are. -/
set_option linter.unusedVariables false
set_option linter.unusedSimpArgs false
set_option maxRecDepth 10000
namespace Go.Ab
theorem atS_ok {fr ev i : Int} (h : (atS fr ev i).2 = 0) : tickOK (atS fr ev i).1 = true := by
  unfold atS at h ⊢
  split at h
  · rename_i hc
    rw [if_pos hc]
    simp only [Bool.and_eq_true, decide_eq_true_eq] at hc
    obtain ⟨⟨⟨⟨h1, h2⟩, h3⟩, _⟩, h5⟩ := hc
    have b1 := tick_bd h1
    have b2 := tick_bd h2
    have := Int.mul_nonneg b2.1 h3
    exact tick_mk (by omega) h5
  · cases h
theorem good_go {w : Wld} (hg : WldGood w) {trip : Nat} (ht : trip < w.trips.length) : 0 ≤ (trpW w trip).route ∧ (trpW w trip).route < (w.routes.length : Int) ∧ RteGo (rteW w trip) := by
  have h := inB_spec (hg.sound.tripA (trpW w trip) (getD_in (l := w.trips) (i := trip) ⟨0, 0, 0, 0⟩ ht))
  have h1 := hg.sound.routes
  have h2 : (trpW w trip).route.toNat < w.routes.length := by omega
  have hin : rteW w trip ∈ w.routes := getD_in (l := w.routes) (i := (trpW w trip).route.toNat) ⟨[], [], []⟩ h2
  have hl := hg.rlen _ hin
  exact ⟨h.1, by omega, hg.rides _ hin, hg.stays _ hin, by omega, by omega⟩
abbrev zRun : List AV := [.int .i64 0, .int .i64 0, .emp, .emp]
theorem le_zRun {Z : ZL} : LeL Z zRun (cRun rn0) := .cons (.refl _) (.cons (.refl _) (.cons (.emp 1) (.cons (.emp 1) (.refl _))))
end Go.Ab
namespace Go.Proofs.YtmfolelgdpkkoaaGreatDoor
open Go Go.Ab
/-- A run and a word, handed back out of a cell and a slot. -/
theorem fin_run {G : GlP} {F : FE} {fn : Func} {T : TL} {L : BL} (hΘ : TTok Pg F.Θ) (hw : F.Θ T_api_Run = some ty_api_Run) (x : Rn) (v : AV) (j k : Nat) (hv : cloB (fun _ => false) v = true) (cs : List AV) (hres : fn.results.toList = [.cell j T_api_Run, .tmp k]) (hj : ∀ a b : AV, getT [(j, a), (k, b)] j = a) (hk : ∀ a b : AV, getT [(j, a), (k, b)] k = b) {l : Lbl}
    (hT : getT T j = .ref l 0) (hT' : getT T k = v) (hL : getL L l = some (.cells T_api_Run cs)) (hc : LeL [] cs (cRun x)) :
    Fin Pg G F [] fn (.tup [.agg (cRun x), v]) [] T L := by
  refine Fin.less [] [(j, .ref l 0), (k, v)] [(l, .cells T_api_Run (cRun x))] ⟨by rw [hT]; exact .refl _, by rw [hT']; exact .refl _, trivial⟩ ⟨⟨_, hL, .cells hc⟩, trivial⟩ trivial
    (chk_mk ⟨by simp [cloB, keyB, getL, lbeq_iff.2 rfl], cloB_free hv, trivial⟩ ⟨rfl, trivial⟩ rfl) ?_
  refine Fin.pure hΘ [.agg (cRun x), v] ?_ rfl (by simp only [cloL, cloB, cloB_free hv, Bool.and_true]; rfl)
  have L2 : getL [(l, .cells T_api_Run (cRun x))] l = some (.cells T_api_Run (cRun x)) := by simp [getL, lbeq_iff.2 rfl]
  have g2 : getT [(j, .ref l 0), (k, v)] j = .ref l 0 := hj _ _
  have g3 : getT [(j, .ref l 0), (k, v)] k = v := hk _ _
  have t2 : takeV ty_api_Run ((cRun x).drop 0) = some (.agg (cRun x)) := rfl
  rw [hres]
  simp only [resA, hw, g2, g3, L2, t2]
theorem m_expand_one (G : GlP) (w : Wld) (trip : Nat) (no : Int) (hno : no ≤ 9223372036854775807) (hl : w.trips.length ≤ 65536) (ht : trip < w.trips.length) (hr0 : 0 ≤ (trpW w trip).route ∧ (trpW w trip).route < (w.routes.length : Int) ∧ RteGo (rteW w trip)) :
    Meets Pg G F_expand_one [.agg (cWld w), .int .i64 (trip : Int), .int .i64 no] [] (.tup [.agg (cRun (oneS w trip no).1), .bool (oneS w trip no).2]) [] := by
  obtain ⟨hr1, hr2, hgo⟩ := hr0
  refine meets_pure (F := fe_expand_one) hTh hMx func_expand_one rfl call_expand_one rfl rfl rfl ?_
  conv => whnf
  refine IndexTo.at (map_atD cTrpO ⟨0, 0, 0, 0⟩ ht) ?_
  conv => whnf
  refine cond_split (fun h1 => ?_) (fun h1 => ?_)
  · have h1' : no < 0 := by simpa using h1
    have e : oneS w trip no = (rn0, false) := by unfold oneS; rw [if_pos (.inl h1')]
    rw [e]
    conv => whnf
    exact fin_run hTh rfl rn0 (.bool false) 6 7 rfl zRun rfl (fun _ _ => rfl) (fun _ _ => rfl) rfl rfl rfl le_zRun
  have h1' : ¬ no < 0 := by simpa using h1
  conv => whnf
  refine CallTo.fn (m_tick_Count G _ _ _) ?_
  conv => whnf
  refine cond_split (fun h2 => ?_) (fun h2 => ?_)
  · have h2' : countS (trpW w trip).fr (trpW w trip).ev (trpW w trip).un ≤ no := of_decide_eq_true h2
    have e : oneS w trip no = (rn0, false) := by unfold oneS; rw [if_pos (.inr h2')]
    rw [e]
    conv => whnf
    exact fin_run hTh rfl rn0 (.bool false) 6 7 rfl zRun rfl (fun _ _ => rfl) (fun _ _ => rfl) rfl rfl rfl le_zRun
  have h2' : ¬ countS (trpW w trip).fr (trpW w trip).ev (trpW w trip).un ≤ no := of_decide_eq_false h2
  have e0 : oneS w trip no = if (atS (trpW w trip).fr (trpW w trip).ev no).2 ≠ 0 ∨ w.hor < (atS (trpW w trip).fr (trpW w trip).ev no).1 then (rn0, false)
      else (runR (rteW w trip) trip no (atS (trpW w trip).fr (trpW w trip).ev no).1, decide (endR (runR (rteW w trip) trip no (atS (trpW w trip).fr (trpW w trip).ev no).1) ≤ w.hor)) := by
    unfold oneS; rw [if_neg (by rintro (h | h); exact h1' h; exact h2' h)]
  conv => whnf
  refine CallTo.fn (m_tick_At G (trpW w trip).fr (trpW w trip).ev no hno) ?_
  conv => whnf
  refine cond_split (fun h3 => ?_) (fun h3 => ?_)
  · have h3' : (atS (trpW w trip).fr (trpW w trip).ev no).2 ≠ 0 := by simpa using h3
    have e : oneS w trip no = (rn0, false) := by rw [e0, if_pos (.inl h3')]
    rw [e]
    conv => whnf
    exact fin_run hTh rfl rn0 (.bool false) 6 7 rfl zRun rfl (fun _ _ => rfl) (fun _ _ => rfl) rfl rfl rfl le_zRun
  have h3' : (atS (trpW w trip).fr (trpW w trip).ev no).2 = 0 := by simpa using h3
  conv => whnf
  refine cond_split (fun h4 => ?_) (fun h4 => ?_)
  · have h4' : w.hor < (atS (trpW w trip).fr (trpW w trip).ev no).1 := of_decide_eq_true h4
    have e : oneS w trip no = (rn0, false) := by rw [e0, if_pos (.inr h4')]
    rw [e]
    conv => whnf
    exact fin_run hTh rfl rn0 (.bool false) 6 7 rfl zRun rfl (fun _ _ => rfl) (fun _ _ => rfl) rfl rfl rfl le_zRun
  have h4' : ¬ w.hor < (atS (trpW w trip).fr (trpW w trip).ev no).1 := of_decide_eq_false h4
  have e : oneS w trip no = (runR (rteW w trip) trip no (atS (trpW w trip).fr (trpW w trip).ev no).1, decide (endR (runR (rteW w trip) trip no (atS (trpW w trip).fr (trpW w trip).ev no).1) ≤ w.hor)) := by
    rw [e0, if_neg (by rintro (h | h); exact h h3'; exact h4' h)]
  have hlen := goR_len (rteW w trip) (atS (trpW w trip).fr (trpW w trip).ev no).1 (rteW w trip).rides.length
  have hf := hgo.few
  rw [e]
  conv => whnf
  refine IndexTo.atD cRteO ⟨[], [], []⟩ hr1 hr2 ?_
  conv => whnf
  refine CallTo.fn (m_expand_run G (rteW w trip)) ?_
  conv => whnf
  refine CallTo.pure (MeetsV.of (m_expand_run_1 G (rteW w trip) _ (atS_ok h3') hgo)) ?_
  conv => whnf
  refine CallTo.fn (m_expand_end G (runR (rteW w trip) trip no (atS (trpW w trip).fr (trpW w trip).ev no).1) (by simp only [runR, hlen.1]; omega) (by simp only [runR, hlen.1]; omega)) ?_
  conv => whnf
  refine ⟨by kernel_rfl, ?_⟩
  conv => whnf
  exact fin_run hTh rfl (runR (rteW w trip) trip no (atS (trpW w trip).fr (trpW w trip).ev no).1) (.bool _) 6 7 rfl (cRun (runR (rteW w trip) trip no (atS (trpW w trip).fr (trpW w trip).ev no).1)) rfl (fun _ _ => rfl) (fun _ _ => rfl) rfl rfl rfl (.refl _)
theorem m_expand_count_1 (G : GlP) (w : Wld) (trip : Nat) (no : Int) (hno : no ≤ 9223372036854775807) (hl : w.trips.length ≤ 65536) (ht : trip < w.trips.length) (hr0 : 0 ≤ (trpW w trip).route ∧ (trpW w trip).route < (w.routes.length : Int) ∧ RteGo (rteW w trip)) :
    Meets Pg G F_expand_count_1 [.int .i64 no, .pp (cWld w), .pp [.int .i64 (trip : Int)]] [] (.bool (!(oneS w trip no).2)) [] := by
  refine meets_pure (F := fe_expand_count_1) hTh hMx func_expand_count_1 rfl call_expand_count_1 rfl rfl rfl ?_
  conv => whnf
  refine CallTo.fn (m_expand_one G w trip no hno hl ht hr0) ?_
  conv => whnf
  exact Fin.one hTh rfl (rfl) rfl
theorem m_expand_count (G : GlP) (w : Wld) (trip : Nat) (hl : w.trips.length ≤ 65536) (ht : trip < w.trips.length) (hr0 : 0 ≤ (trpW w trip).route ∧ (trpW w trip).route < (w.routes.length : Int) ∧ RteGo (rteW w trip)) :
    Meets Pg G F_expand_count [.agg (cWld w), .int .i64 (trip : Int)] [] (.int .i64 (countT w trip : Int)) [] := by
  obtain ⟨n, hn⟩ : ∃ n : Nat, countS (trpW w trip).fr (trpW w trip).ev (trpW w trip).un = n := ⟨_, (Int.toNat_of_nonneg (countS_bd _ _ _).1).symm⟩
  have hb := countS_bd (trpW w trip).fr (trpW w trip).ev (trpW w trip).un
  have hc := m_tick_Count G (trpW w trip).fr (trpW w trip).ev (trpW w trip).un
  rw [hn] at hc hb
  have e : countT w trip = srch (fun k => (oneS w trip k).2) 0 n := by unfold countT; rw [hn]; rfl
  have hm := m_sort_Search G (.fn (.func F_expand_count_1) [] [.pp (cWld w), .pp [.int .i64 (trip : Int)]]) (fun k => (oneS w trip k).2) n (by omega) (fun k hk => MeetsV.of (m_expand_count_1 G w trip k (by omega) hl ht hr0)) rfl
  rw [e]
  refine meets_pure (F := { fe_expand_count with stops := [2] }) hTh hMx func_expand_count rfl call_expand_count rfl rfl rfl ?_
  conv => whnf
  refine IndexTo.at (map_atD cTrpO ⟨0, 0, 0, 0⟩ ht) ?_
  conv => whnf
  refine CodeTo.less [((F_expand_count, 2), .cells T_api_World (cWld w)), ((F_expand_count, 3), .cells T_int [.int .i64 (trip : Int)])] [(2, .pp (cWld w)), (3, .pp [.int .i64 (trip : Int)]), (5, .ref (F_expand_count, 5) 0)] [((F_expand_count, 5), .cells T_api_TripOf (cTrpO (trpW w trip)))]
    ⟨.ref List.mem_cons_self, .ref (List.mem_cons_of_mem _ List.mem_cons_self), .refl _, trivial⟩ ⟨⟨_, rfl, .refl _⟩, trivial⟩ ⟨rfl, rfl, rfl, rfl, rfl, rfl, trivial⟩ rfl ?_
  refine CodeTo.go hTh hMx ?_
  conv => whnf
  refine CallTo.fn (hc) ?_
  conv => whnf
  refine CallTo.fn (hm) ?_
  conv => whnf
  exact Fin.one hTh rfl (rfl) rfl
theorem m_expand_good (G : GlP) (hR : Res G) (w : Wld) (hw : WldSmall w) : Meets Pg G F_expand_good [.agg (cWld w)] [] (.bool ((checkS w).err == 0)) [] := by
  refine meets_pure (F := fe_expand_good) hTh hMx func_expand_good rfl call_expand_good rfl rfl rfl ?_
  conv => whnf
  refine CallTo.fn (m_world_Check G hR w hw) ?_
  conv => whnf
  refine OpTo.field hTh rfl rfl rfl rfl ?_
  conv => whnf
  exact Fin.one hTh rfl (rfl) rfl
theorem m_expand_is (G : GlP) (w : Wld) (hl : w.trips.length ≤ 65536) (trip : Int) : Meets Pg G F_expand_is [.agg (cWld w), .int .i64 trip] [] (.bool (isT w trip)) [] := by
  have e1 : (w.trips.map cTrpO).length = w.trips.length := List.length_map _
  refine meets_pure (F := fe_expand_is) hTh hMx func_expand_is rfl call_expand_is rfl rfl rfl ?_
  conv => whnf
  refine cond_split (fun h => ?_) (fun h => ?_)
  · conv => whnf
    exact Fin.one hTh rfl (by simp only [getT, ofValue, isT, e1]; rw [show decide (0 ≤ trip) = true from h]; rfl) rfl
  · conv => whnf
    exact Fin.one hTh rfl (by simp only [getT, ofValue, isT]; rw [show decide (0 ≤ trip) = false from h]; rfl) rfl
end Go.Proofs.YtmfolelgdpkkoaaGreatDoor
/- Counts and runs, told by the program. -/
set_option linter.unusedVariables false
set_option linter.unusedSimpArgs false
set_option maxRecDepth 10000
namespace Go.Ab
theorem isT_spec {w : Wld} {trip : Int} (h : isT w trip = true) : ∃ t : Nat, trip = t ∧ t < w.trips.length := by
  simp only [isT, Bool.and_eq_true, decide_eq_true_eq] at h
  exact ⟨trip.toNat, by omega, by omega⟩
end Go.Ab
namespace Go.Proofs.YtmfolelgdpkkoaaGreatDoor
open Go Go.Ab
theorem m_expand_Count (G : GlP) (hR : Res G) (w : Wld) (hw : WldSmall w) (trip : Int) : Meets Pg G F_expand_Count [.agg (cWld w), .int .i64 trip] [] (.int .i64 (countE w trip)) [] := by
  have hf := hw.fits
  refine meets_pure (F := fe_expand_Count) hTh hMx func_expand_Count rfl call_expand_Count rfl rfl rfl ?_
  conv => whnf
  refine CallTo.fn (m_expand_good G hR w hw) ?_
  conv => whnf
  cases h : ((checkS w).err == 0)
  rotate_left
  · have h' : (checkS w).err = 0 := by simpa using h
    have hg := good_of h'
    conv => whnf
    refine CallTo.fn (m_expand_is G w hf.trips trip) ?_
    conv => whnf
    cases ht : isT w trip
    · have e : countE w trip = 0 := by simp [countE, ht]
      rw [e]
      conv => whnf
      exact Fin.one hTh rfl (rfl) rfl
    · obtain ⟨t, rfl, htl⟩ := isT_spec ht
      have e : countE w t = countT w t := by simp [countE, ht, h']
      rw [e]
      conv => whnf
      refine CallTo.fn (m_expand_count G w t hf.trips htl (good_go hg htl)) ?_
      conv => whnf
      exact Fin.one hTh rfl (rfl) rfl
  · have h' : ¬ (checkS w).err = 0 := by simpa using h
    have e : countE w trip = 0 := by simp [countE, h']
    rw [e]
    conv => whnf
    exact Fin.one hTh rfl (rfl) rfl
theorem m_expand_One (G : GlP) (hR : Res G) (w : Wld) (hw : WldSmall w) (trip no : Int) (hno : no ≤ 9223372036854775807) : Meets Pg G F_expand_One [.agg (cWld w), .int .i64 trip, .int .i64 no] [] (.tup [.agg (cRun (oneE w trip no).1), .int .i64 (oneE w trip no).2]) [] := by
  have hf := hw.fits
  refine meets_pure (F := fe_expand_One) hTh hMx func_expand_One rfl call_expand_One rfl rfl rfl ?_
  conv => whnf
  refine CallTo.fn (m_expand_good G hR w hw) ?_
  conv => whnf
  cases h : ((checkS w).err == 0)
  rotate_left
  · have h' : (checkS w).err = 0 := by simpa using h
    have hg := good_of h'
    conv => whnf
    refine CallTo.fn (m_expand_is G w hf.trips trip) ?_
    conv => whnf
    cases ht : isT w trip
    · have e : oneE w trip no = (rn0, 5) := by simp [oneE, ht, h']
      rw [e]
      conv => whnf
      exact fin_run hTh rfl rn0 (.int .i64 5) 6 7 rfl zRun rfl (fun _ _ => rfl) (fun _ _ => rfl) rfl rfl rfl le_zRun
    · obtain ⟨t, rfl, htl⟩ := isT_spec ht
      conv => whnf
      refine CallTo.fn (m_expand_one G w t no hno hf.trips htl (good_go hg htl)) ?_
      conv => whnf
      cases h1 : (oneS w t no).2
      · have e : oneE w t no = (rn0, 5) := by simp [oneE, h', h1]
        rw [e]
        conv => whnf
        exact fin_run hTh rfl rn0 (.int .i64 5) 6 7 rfl zRun rfl (fun _ _ => rfl) (fun _ _ => rfl) rfl rfl rfl le_zRun
      · have e : oneE w t no = ((oneS w t no).1, 0) := by simp [oneE, ht, h', h1]
        rw [e]
        conv => whnf
        exact fin_run hTh rfl (oneS w t no).1 (.int .i64 0) 6 7 rfl (cRun (oneS w t no).1) rfl (fun _ _ => rfl) (fun _ _ => rfl) rfl rfl rfl (.refl _)
  · have h' : ¬ (checkS w).err = 0 := by simpa using h
    have e : oneE w trip no = (rn0, 2) := by simp [oneE, h']
    rw [e]
    conv => whnf
    exact fin_run hTh rfl rn0 (.int .i64 2) 6 7 rfl zRun rfl (fun _ _ => rfl) (fun _ _ => rfl) rfl rfl rfl le_zRun
end Go.Proofs.YtmfolelgdpkkoaaGreatDoor
/- Whether a run's times may be; a run looked at, a run made later, by the program. -/
set_option linter.unusedVariables false
set_option linter.unusedSimpArgs false
set_option maxRecDepth 10000
namespace Go.Ab
structure RnFits (r : Rn) : Prop where
  arr : r.arr.length ≤ 65536
  dep : r.dep.length ≤ 65536
theorem times_no1 {r : Rn} (h : r.arr.length < 2) : timesB r = false := by simp [timesB]; omega
theorem times_no2 {r : Rn} (h : ¬ r.dep.length = r.arr.length) : timesB r = false := by simp [timesB, h]
theorem times_no3 {r : Rn} (h : ¬ r.arr.getD 0 0 = r.dep.getD 0 0) : timesB r = false := by
  unfold timesB
  rw [show (r.arr.getD 0 0 == r.dep.getD 0 0) = false from by simpa using h]
  simp
theorem times_no4 {r : Rn} (h : ¬ r.arr.getD (r.arr.length - 1) 0 = r.dep.getD (r.arr.length - 1) 0) : timesB r = false := by
  unfold timesB
  rw [show (r.arr.getD (r.arr.length - 1) 0 == r.dep.getD (r.arr.length - 1) 0) = false from by simpa using h]
  simp
theorem times_no5 {r : Rn} (h : r.arr.getD 0 0 < 0) : timesB r = false := by
  unfold timesB
  rw [show decide (0 ≤ r.arr.getD 0 0) = false from decide_eq_false (by omega)]
  simp
theorem times_no6 {r : Rn} (h : 1099511627776 < r.arr.getD (r.arr.length - 1) 0) : timesB r = false := by
  unfold timesB
  rw [show decide (r.arr.getD (r.arr.length - 1) 0 ≤ 1099511627776) = false from decide_eq_false (by omega)]
  simp
theorem times_no7 {r : Rn} {k : Nat} (hk : k < r.arr.length - 1) (h : riseB r k = false) : timesB r = false := by
  unfold timesB
  have : (List.range (r.arr.length - 1)).all (riseB r) = false := by
    rw [Bool.eq_false_iff]
    intro ha
    have := List.all_eq_true.1 ha k (List.mem_range.2 hk)
    rw [h] at this
    cases this
  rw [this, Bool.and_false]
theorem times_yes {r : Rn} (h1 : ¬ r.arr.length < 2) (h2 : r.dep.length = r.arr.length) (h3 : r.arr.getD 0 0 = r.dep.getD 0 0) (h4 : r.arr.getD (r.arr.length - 1) 0 = r.dep.getD (r.arr.length - 1) 0) (h5 : ¬ r.arr.getD 0 0 < 0) (h6 : ¬ 1099511627776 < r.arr.getD (r.arr.length - 1) 0)
    (h7 : ∀ k, k < r.arr.length - 1 → riseB r k = true) : timesB r = true := by
  unfold timesB
  rw [List.all_eq_true.2 fun k hk => h7 k (List.mem_range.1 hk)]
  have a1 : decide (2 ≤ r.arr.length) = true := decide_eq_true (by omega)
  have a2 : (r.dep.length == r.arr.length) = true := by simpa using h2
  have a3 : (r.arr.getD 0 0 == r.dep.getD 0 0) = true := by simpa using h3
  have a4 : (r.arr.getD (r.arr.length - 1) 0 == r.dep.getD (r.arr.length - 1) 0) = true := by simpa using h4
  have a5 : decide (0 ≤ r.arr.getD 0 0) = true := decide_eq_true (by omega)
  have a6 : decide (r.arr.getD (r.arr.length - 1) 0 ≤ 1099511627776) = true := decide_eq_true (by omega)
  rw [a1, a2, a3, a4, a5, a6]
  rfl
end Go.Ab
namespace Go.Proofs.YtmfolelgdpkkoaaGreatDoor
open Go Go.Ab
theorem m_expand_times (G : GlP) (r : Rn) (hr : RnFits r) : Meets Pg G F_expand_times [.agg (cRun r)] [] (.bool (timesB r)) [] := by
  have f1 := hr.arr
  have f2 := hr.dep
  have e1 : (r.arr.map cI).length = r.arr.length := List.length_map _
  have e2 : (r.dep.map cI).length = r.dep.length := List.length_map _
  refine meets_pure (F := fe_expand_times) hTh hMx func_expand_times rfl call_expand_times rfl rfl rfl ?_
  conv => whnf
  refine cond_split (fun h => ?_) (fun h => ?_)
  · rw [times_no1 (r := r) (by simp at h; omega)]
    conv => whnf
    refine ⟨by kernel_rfl, ?_⟩
    conv => whnf
    exact Fin.one hTh rfl (rfl) rfl
  have h1 : ¬ r.arr.length < 2 := by simp at h; omega
  conv => whnf
  refine cond_split (fun h => ?_) (fun h => ?_)
  · rw [times_no2 (r := r) (by simp at h; omega)]
    conv => whnf
    refine ⟨by kernel_rfl, ?_⟩
    conv => whnf
    exact Fin.one hTh rfl (rfl) rfl
  have h2 : r.dep.length = r.arr.length := by simp at h; omega
  conv => whnf
  refine IndexTo.atD cI 0 (i := 0) (by omega) (by omega) ?_
  conv => whnf
  refine IndexTo.atD cI 0 (i := 0) (by omega) (by omega) ?_
  conv => whnf
  refine cond_split (fun h => ?_) (fun h => ?_)
  · rw [times_no3 (r := r) (by simpa using h)]
    conv => whnf
    refine ⟨by kernel_rfl, ?_⟩
    conv => whnf
    exact Fin.one hTh rfl (rfl) rfl
  have h3 : r.arr.getD 0 0 = r.dep.getD 0 0 := by simpa using h
  conv => whnf
  refine WrapTo.i64 (by omega) ?_
  conv => whnf
  refine IndexTo.atD cI 0 (by omega) (by omega) ?_
  conv => whnf
  refine CallTo.fn (m_expand_end G r (by omega) (by omega)) ?_
  conv => whnf
  have e3 : (((r.arr.map cI).length : Int) - 1).toNat = r.arr.length - 1 := by omega
  rw [e3]
  refine cond_split (fun h => ?_) (fun h => ?_)
  · have h' : ¬ r.arr.getD (r.arr.length - 1) 0 = r.dep.getD (r.arr.length - 1) 0 := by
      intro he
      simp only [endR, he] at h
      simp at h
    rw [times_no4 h']
    conv => whnf
    refine ⟨by kernel_rfl, ?_⟩
    conv => whnf
    exact Fin.one hTh rfl (rfl) rfl
  have h4 : r.arr.getD (r.arr.length - 1) 0 = r.dep.getD (r.arr.length - 1) 0 := by
    simp only [endR] at h
    have := bne_eq_false_iff_eq.1 h
    exact this.symm
  conv => whnf
  refine IndexTo.atD cI 0 (i := 0) (by omega) (by omega) ?_
  conv => whnf
  refine cond_split (fun h => ?_) (fun h => ?_)
  · rw [times_no5 (r := r) (of_decide_eq_true h)]
    conv => whnf
    refine ⟨by kernel_rfl, ?_⟩
    conv => whnf
    exact Fin.one hTh rfl (rfl) rfl
  have h5 : ¬ r.arr.getD 0 0 < 0 := of_decide_eq_false h
  conv => whnf
  refine CallTo.fn (m_expand_end G r (by omega) (by omega)) ?_
  conv => whnf
  refine ⟨by kernel_rfl, ?_⟩
  conv => whnf
  refine cond_split (fun h => ?_) (fun h => ?_)
  · rw [times_no6 (r := r) (of_decide_eq_true h)]
    conv => whnf
    exact Fin.one hTh rfl (rfl) rfl
  have h6 : ¬ 1099511627776 < r.arr.getD (r.arr.length - 1) 0 := of_decide_eq_false h
  conv => whnf
  refine LoopOK.weak _ _ ?_ ?_ ?_ (LoopOK.ind (fun k : Nat => r.arr.length - 1 - k) (fun k => [(1, .ref (F_expand_times, 1) 0), (3, .int .i64 (r.arr.map cI).length), (4, .int .i64 ((k : Int) + 1))]) (fun _ => [((F_expand_times, 1), .cells T_api_Run (cRun r))])
    (fun k => k ≤ r.arr.length - 1 ∧ ∀ j, j < k → riseB r j = true) ?_ 0 ⟨by omega, fun j hj => by omega⟩)
  · exact ⟨rfl, rfl, rfl, trivial⟩
  · exact ⟨rfl, trivial⟩
  · rfl
  rintro k ⟨hk, hb⟩ IH
  refine LoopOK.round hTh hMx ?_
  conv => whnf
  refine cond_split (fun h => ?_) (fun hz => ?_)
  · have hlt : k < r.arr.length - 1 := by simp at h; omega
    have e4 : ((k : Int) + 1).toNat = k + 1 := by omega
    have e5 : ((k : Int) + 1 - 1).toNat = k := by omega
    conv => whnf
    refine IndexTo.atD cI 0 (by omega) (by omega) ?_
    conv => whnf
    refine WrapTo.i64 (by omega) ?_
    conv => whnf
    refine IndexTo.atD cI 0 (by omega) (by omega) ?_
    conv => whnf
    rw [e4, e5]
    refine cond_split (fun h8 => ?_) (fun h8 => ?_)
    · have hn : riseB r k = false := by
        unfold riseB
        rw [decide_eq_false (by have := of_decide_eq_true h8; omega)]
        rfl
      rw [times_no7 hlt hn]
      conv => whnf
      refine ⟨by kernel_rfl, ?_⟩
      conv => whnf
      exact Fin.one hTh rfl (rfl) rfl
    have h8' := of_decide_eq_false h8
    conv => whnf
    refine IndexTo.atD cI 0 (by omega) (by omega) ?_
    conv => whnf
    refine IndexTo.atD cI 0 (by omega) (by omega) ?_
    conv => whnf
    rw [e4]
    refine ⟨by kernel_rfl, ?_⟩
    conv => whnf
    refine cond_split (fun h9 => ?_) (fun h9 => ?_)
    · have hn : riseB r k = false := by
        unfold riseB
        rw [decide_eq_false (p := r.arr.getD (k + 1) 0 ≤ r.dep.getD (k + 1) 0) (by have := of_decide_eq_true h9; omega), Bool.and_false]
      rw [times_no7 hlt hn]
      conv => whnf
      exact Fin.one hTh rfl (rfl) rfl
    have h9' := of_decide_eq_false h9
    have hy : riseB r k = true := by
      unfold riseB
      rw [decide_eq_true (by omega), decide_eq_true (by omega)]
      rfl
    conv => whnf
    refine WrapTo.i64 (by omega) ?_
    conv => whnf
    refine LoopOK.weak _ _ ?_ ?_ ?_ (IH (k + 1) (by omega) ⟨by omega, fun j hj => by
      rcases Nat.lt_succ_iff_lt_or_eq.1 hj with h | rfl
      · exact hb j h
      · exact hy⟩)
    · exact ⟨rfl, rfl, rfl, trivial⟩
    · exact ⟨rfl, trivial⟩
    · rfl
  · have hge : r.arr.length - 1 ≤ k := by simp at hz; omega
    rw [times_yes h1 h2 h3 h4 h5 h6 fun j hj => hb j (by omega)]
    conv => whnf
    exact Fin.one hTh rfl (rfl) rfl
end Go.Proofs.YtmfolelgdpkkoaaGreatDoor
/- A run made later, by the program. -/
set_option linter.unusedVariables false
set_option linter.unusedSimpArgs false
set_option maxRecDepth 10000
namespace Go.Ab
theorem times_spec {r : Rn} (h : timesB r = true) : 2 ≤ r.arr.length ∧ r.dep.length = r.arr.length ∧ r.arr.getD 0 0 = r.dep.getD 0 0 ∧ r.arr.getD (r.arr.length - 1) 0 = r.dep.getD (r.arr.length - 1) 0 ∧ 0 ≤ r.arr.getD 0 0 ∧ r.arr.getD (r.arr.length - 1) 0 ≤ 1099511627776 ∧
    ∀ k, k < r.arr.length - 1 → r.dep.getD k 0 < r.arr.getD (k + 1) 0 ∧ r.arr.getD (k + 1) 0 ≤ r.dep.getD (k + 1) 0 := by
  simp only [timesB, Bool.and_eq_true, decide_eq_true_eq, beq_iff_eq] at h
  obtain ⟨⟨⟨⟨⟨⟨h1, h2⟩, h3⟩, h4⟩, h5⟩, h6⟩, h7⟩ := h
  refine ⟨h1, h2, h3, h4, h5, h6, fun k hk => ?_⟩
  have := List.all_eq_true.1 h7 k (List.mem_range.2 hk)
  simpa only [riseB, Bool.and_eq_true, decide_eq_true_eq] using this
theorem times_bd {r : Rn} (h : timesB r = true) : ∀ k, k < r.arr.length → 0 ≤ r.arr.getD k 0 ∧ r.arr.getD k 0 ≤ r.dep.getD k 0 ∧ r.dep.getD k 0 ≤ 1099511627776 := by
  obtain ⟨h1, h2, h3, h4, h5, h6, h7⟩ := times_spec h
  have up : ∀ k, k < r.arr.length → 0 ≤ r.arr.getD k 0 ∧ r.arr.getD k 0 ≤ r.dep.getD k 0 := fun k => by
    induction k with
    | zero => intro _; omega
    | succ k ih =>
      intro hk
      have a := ih (by omega)
      have b := h7 k (by omega)
      omega
  have dn : ∀ d, d < r.arr.length → r.dep.getD (r.arr.length - 1 - d) 0 ≤ 1099511627776 := fun d => by
    induction d with
    | zero => intro _; rw [Nat.sub_zero]; omega
    | succ d ih =>
      intro hd
      have a := ih (by omega)
      have b := h7 (r.arr.length - 1 - (d + 1)) (by omega)
      rw [show r.arr.length - 1 - (d + 1) + 1 = r.arr.length - 1 - d by omega] at b
      omega
  intro k hk
  have a := up k hk
  have b := dn (r.arr.length - 1 - k) (by omega)
  rw [show r.arr.length - 1 - (r.arr.length - 1 - k) = k by omega] at b
  omega
/-- A list whose first k places are new. -/
def upTo (v : Nat → Int) (l : List Int) (k : Nat) : List Int := (List.range l.length).map fun j => if j < k then v j else l.getD j 0
theorem upTo_len (v : Nat → Int) (l : List Int) (k : Nat) : (upTo v l k).length = l.length := by simp [upTo]
theorem upTo_at (v : Nat → Int) {l : List Int} {k : Nat} (h : k < l.length) : (upTo v l k)[k]? = some (l.getD k 0) := by simp [upTo, h]
theorem upTo_set (v : Nat → Int) {l : List Int} {k : Nat} (h : k < l.length) : (upTo v l k).set k (v k) = upTo v l (k + 1) := by
  apply List.ext_getElem?
  intro i
  by_cases hi : i = k
  · subst hi
    rw [List.getElem?_set_self (by rw [upTo_len]; exact h)]
    simp [upTo, h]
  · rw [List.getElem?_set_ne (fun e => hi e.symm)]
    simp only [upTo, List.getElem?_map]
    cases hr : (List.range l.length)[i]? with
    | none => rfl
    | some j =>
      have : j = i := by
        have := List.getElem?_eq_some_iff.1 hr
        obtain ⟨_, h2⟩ := this
        simpa using h2.symm
      subst this
      simp only [Option.map_some]
      congr 1
      by_cases h1 : j < k
      · rw [if_pos h1, if_pos (by omega)]
      · rw [if_neg h1, if_neg (by omega)]
theorem upTo_same (v : Nat → Int) {l : List Int} {k : Nat} (hv : v k = l.getD k 0) : upTo v l (k + 1) = upTo v l k := by
  unfold upTo
  apply List.map_congr_left
  intro j hj
  by_cases h1 : j < k
  · rw [if_pos h1, if_pos (by omega)]
  · by_cases h2 : j = k
    · subst h2; rw [if_pos (by omega), if_neg h1, hv]
    · rw [if_neg h1, if_neg (by omega)]
theorem upTo_start (v : Nat → Int) {l : List Int} {k : Nat} (hv : ∀ j, j < k → v j = l.getD j 0) : upTo v l k = l := by
  apply List.ext_getElem?
  intro i
  simp only [upTo, List.getElem?_map]
  by_cases hi : i < l.length
  · rw [List.getElem?_range hi]
    simp only [Option.map_some]
    by_cases h1 : i < k
    · rw [if_pos h1, hv i h1]; simp [List.getD, hi]
    · rw [if_neg h1]; simp [List.getD, hi]
  · rw [List.getElem?_eq_none (by simpa using hi), List.getElem?_eq_none (by omega)]
    rfl
theorem upTo_all (v : Nat → Int) {l : List Int} {k : Nat} (hk : l.length ≤ k) : upTo v l k = (List.range l.length).map v := by
  unfold upTo
  apply List.map_congr_left
  intro j hj
  rw [if_pos (by have := List.mem_range.1 hj; omega)]
theorem one_lenI (l : List Int) : ∀ x ∈ l.map cI, x.length = 1 := fun x hx => by
  obtain ⟨y, _, rfl⟩ := List.mem_map.1 hx
  rfl
end Go.Ab
namespace Go.Proofs.YtmfolelgdpkkoaaGreatDoor
open Go Go.Ab
theorem mo_cloneI_a (G : GlP) (xs : List Int) (hl : xs.length ≤ 4294967296) : Meets Pg G F_slices_Clone_int64_int64 [.lst 1 (xs.map cI)] [] (.own (90001, 7) xs.length) [((90001, 7), .row T_i64 1 (xs.map cI))] := by
  refine meets_mk (F := { fe_slices_Clone_int64_int64 with f := 90001 }) hTh hMx func_slices_Clone_int64_int64 rfl call_slices_Clone_int64_int64 rfl rfl rfl key_one (all_row (Clo.map fI xs)) ?_
  by_cases hx : xs = []
  · subst hx
    conv => whnf
    refine OpTo.nilS hTh rfl (.inl rfl) rfl rfl trivial ?_
    conv => whnf
    refine ⟨?_, ?_⟩
    · conv => whnf
      refine Fin.conv (Conv.empOwn 2 rfl (90001, 7) rfl T_i64 1) ?_
      exact Fin.give hTh [_] rfl rfl ⟨rfl, trivial⟩ key_one (all_row Clo.nil)
    · conv => whnf
      refine ⟨by simp, ?_⟩
      conv => whnf
      exact Fin.give hTh [_] rfl rfl ⟨rfl, trivial⟩ key_one (all_row Clo.nil)
  · conv => whnf
    refine OpTo.nilL hTh (fun e => hx (by simpa using e)) rfl (.inl rfl) rfl rfl rfl ?_
    conv => whnf
    refine ⟨by simpa using hl, ?_⟩
    conv => whnf
    exact Fin.give hTh [.own (90001, 7) xs.length] (by simp [resA, getT]) rfl ⟨rfl, trivial⟩ key_one (all_row (Clo.map fI xs))
theorem mo_cloneI_b (G : GlP) (xs : List Int) (hl : xs.length ≤ 4294967296) : Meets Pg G F_slices_Clone_int64_int64 [.lst 1 (xs.map cI)] [] (.own (90002, 7) xs.length) [((90002, 7), .row T_i64 1 (xs.map cI))] := by
  refine meets_mk (F := { fe_slices_Clone_int64_int64 with f := 90002 }) hTh hMx func_slices_Clone_int64_int64 rfl call_slices_Clone_int64_int64 rfl rfl rfl key_one (all_row (Clo.map fI xs)) ?_
  by_cases hx : xs = []
  · subst hx
    conv => whnf
    refine OpTo.nilS hTh rfl (.inl rfl) rfl rfl trivial ?_
    conv => whnf
    refine ⟨?_, ?_⟩
    · conv => whnf
      refine Fin.conv (Conv.empOwn 2 rfl (90002, 7) rfl T_i64 1) ?_
      exact Fin.give hTh [_] rfl rfl ⟨rfl, trivial⟩ key_one (all_row Clo.nil)
    · conv => whnf
      refine ⟨by simp, ?_⟩
      conv => whnf
      exact Fin.give hTh [_] rfl rfl ⟨rfl, trivial⟩ key_one (all_row Clo.nil)
  · conv => whnf
    refine OpTo.nilL hTh (fun e => hx (by simpa using e)) rfl (.inl rfl) rfl rfl rfl ?_
    conv => whnf
    refine ⟨by simpa using hl, ?_⟩
    conv => whnf
    exact Fin.give hTh [.own (90002, 7) xs.length] (by simp [resA, getT]) rfl ⟨rfl, trivial⟩ key_one (all_row (Clo.map fI xs))
theorem m_expand_Later (G : GlP) (r : Rn) (hr : RnFits r) (from_ by_ : Int) (hby : by_ ≤ 9223372036854775807) : Meets Pg G F_expand_Later [.agg (cRun r), .int .i64 from_, .int .i64 by_] [] (.tup [.agg (cRun (laterS r from_ by_).1), .int .i64 (laterS r from_ by_).2]) [] := by
  have f1 := hr.arr
  have f2 := hr.dep
  have e1 : (r.arr.map cI).length = r.arr.length := List.length_map _
  have e2 : (r.dep.map cI).length = r.dep.length := List.length_map _
  have bad : (!timesB r || decide (from_ < 0) || decide ((r.arr.length : Int) - 1 ≤ from_) || decide (by_ < 0)) = true → laterS r from_ by_ = (rn0, 2) := fun h => by unfold laterS; rw [if_pos h]
  refine meets_pure (F := fe_expand_Later) hTh hMx func_expand_Later rfl call_expand_Later rfl rfl rfl ?_
  conv => whnf
  refine CallTo.fn (m_expand_times G r hr) ?_
  conv => whnf
  cases ht : timesB r
  · rw [bad (by rw [ht]; rfl)]
    conv => whnf
    exact fin_run hTh rfl rn0 (.int .i64 2) 6 7 rfl zRun rfl (fun _ _ => rfl) (fun _ _ => rfl) rfl rfl rfl le_zRun
  obtain ⟨t1, t2, t3, t4, t5, t6, t7⟩ := times_spec ht
  conv => whnf
  refine cond_split (fun h => ?_) (fun h => ?_)
  · rw [bad (by rw [show decide (from_ < 0) = true from h]; simp)]
    conv => whnf
    exact fin_run hTh rfl rn0 (.int .i64 2) 6 7 rfl zRun rfl (fun _ _ => rfl) (fun _ _ => rfl) rfl rfl rfl le_zRun
  have c1 : ¬ from_ < 0 := of_decide_eq_false h
  conv => whnf
  refine WrapTo.i64 (by omega) ?_
  conv => whnf
  refine cond_split (fun h => ?_) (fun h => ?_)
  · rw [bad (by rw [show decide ((r.arr.length : Int) - 1 ≤ from_) = true from decide_eq_true (by simp at h; omega)]; simp)]
    conv => whnf
    exact fin_run hTh rfl rn0 (.int .i64 2) 6 7 rfl zRun rfl (fun _ _ => rfl) (fun _ _ => rfl) rfl rfl rfl le_zRun
  have c2 : ¬ (r.arr.length : Int) - 1 ≤ from_ := by simp at h; omega
  conv => whnf
  refine cond_split (fun h => ?_) (fun h => ?_)
  · rw [bad (by rw [show decide (by_ < 0) = true from h]; simp)]
    conv => whnf
    exact fin_run hTh rfl rn0 (.int .i64 2) 6 7 rfl zRun rfl (fun _ _ => rfl) (fun _ _ => rfl) rfl rfl rfl le_zRun
  have c3 : ¬ by_ < 0 := of_decide_eq_false h
  have e0 : laterS r from_ by_ = if 1099511627776 - endR r < by_ then (rn0, 9) else (⟨r.trip, r.no, (List.range r.arr.length).map (lateA r from_.toNat by_), (List.range r.dep.length).map (lateD r from_.toNat by_)⟩, 0) := by
    unfold laterS
    rw [if_neg (by simp [ht]; omega)]
  have hend := times_bd ht (r.arr.length - 1) (by omega)
  conv => whnf
  refine CallTo.fn (m_expand_end G r (by omega) (by omega)) ?_
  conv => whnf
  refine WrapTo.i64 (by simp only [endR]; omega) ?_
  conv => whnf
  refine cond_split (fun h => ?_) (fun h => ?_)
  · rw [e0, if_pos (of_decide_eq_true h)]
    conv => whnf
    exact fin_run hTh rfl rn0 (.int .i64 9) 6 7 rfl zRun rfl (fun _ _ => rfl) (fun _ _ => rfl) rfl rfl rfl le_zRun
  have c4 : ¬ 1099511627776 - endR r < by_ := of_decide_eq_false h
  have c5 : by_ ≤ 1099511627776 := by simp only [endR] at c4; omega
  obtain ⟨f, rfl⟩ : ∃ f : Nat, from_ = f := ⟨from_.toNat, by omega⟩
  rw [e0, if_neg c4, Int.toNat_natCast]
  conv => whnf
  refine CallTo.fnMakes (mo_cloneI_a G r.arr (by omega)) rfl ?_
  conv => whnf
  refine CallTo.fnMakes (mo_cloneI_b G r.dep (by omega)) rfl ?_
  conv => whnf
  refine ⟨by kernel_rfl, ?_⟩
  conv => whnf
  refine LoopOK.weak _ _ ?_ ?_ ?_ (LoopOK.ind (fun k : Nat => r.dep.length - k) (fun k => [(1, .int .i64 (f : Int)), (2, .int .i64 by_), (3, .ref (F_expand_Later, 3) 0), (6, .ref (F_expand_Later, 6) 0), (8, .int .i64 (k : Int))])
    (fun k => [((F_expand_Later, 3), .cells T_api_Run [.int .i64 r.trip, .int .i64 r.no, .own (90001, 7) r.arr.length, .own (90002, 7) r.dep.length]), ((F_expand_Later, 6), .cells T_api_Run (zcells ty_api_Run)), ((90001, 7), .row T_i64 1 ((upTo (lateA r f by_) r.arr k).map cI)), ((90002, 7), .row T_i64 1 ((upTo (lateD r f by_) r.dep k).map cI))]) (fun k => f ≤ k ∧ k ≤ r.dep.length) ?_ f ⟨by omega, by omega⟩)
  · exact ⟨rfl, rfl, rfl, rfl, rfl, trivial⟩
  · have sa : r.arr = upTo (lateA r f by_) r.arr f := (upTo_start _ fun j hj => by unfold lateA; rw [if_neg (by omega)]).symm
    have sd : r.dep = upTo (lateD r f by_) r.dep f := (upTo_start _ fun j hj => by unfold lateD; rw [if_neg (by omega)]).symm
    exact ⟨rfl, rfl, congrArg (fun z : List Int => some (ABox.row T_i64 1 (z.map cI))) sa, congrArg (fun z : List Int => some (ABox.row T_i64 1 (z.map cI))) sd, trivial⟩
  · exact chk_mk ⟨rfl, rfl, rfl, rfl, rfl, trivial⟩ ⟨rfl, rfl, cloX_row (l := (0, 0)) (e := 0) (sz := 0) (Clo.map fI _), cloX_row (l := (0, 0)) (e := 0) (sz := 0) (Clo.map fI _), trivial⟩ rfl
  rintro k ⟨hk1, hk2⟩ IH
  have la : ((upTo (lateA r f by_) r.arr k).map cI).length = r.arr.length := by rw [List.length_map, upTo_len]
  have ld : ((upTo (lateD r f by_) r.dep k).map cI).length = r.dep.length := by rw [List.length_map, upTo_len]
  refine LoopOK.round hTh hMx ?_
  conv => whnf
  refine cond_split (fun h => ?_) (fun hz => ?_)
  · have hlt : k < r.dep.length := by simpa using h
    have hlt2 : k < r.arr.length := by omega
    have hbd := times_bd ht k hlt2
    have vd : lateD r f by_ k = r.dep.getD k 0 + by_ := by unfold lateD; rw [if_pos hk1]
    have atd : ((upTo (lateD r f by_) r.dep k).map cI)[k]? = some (cI (r.dep.getD k 0)) := by rw [List.getElem?_map, upTo_at _ hlt]; rfl
    have ata : ((upTo (lateA r f by_) r.arr k).map cI)[k]? = some (cI (r.arr.getD k 0)) := by rw [List.getElem?_map, upTo_at _ hlt2]; rfl
    have setd : ((upTo (lateD r f by_) r.dep k).map cI).set k (cI (r.dep.getD k 0 + by_)) = (upTo (lateD r f by_) r.dep (k + 1)).map cI := by rw [← List.map_set, ← vd, upTo_set _ hlt]
    conv => whnf
    refine OpTo.rowAt hTh rfl rfl rfl rfl rfl rfl rfl ld rfl (by omega) (by omega) ?_
    conv => whnf
    refine OpTo.rowLoad hTh k 0 rfl rfl rfl rfl ld (one_lenI _) atd (by omega) (by decide) (by decide) rfl ?_
    conv => whnf
    refine WrapTo.i64 (by omega) ?_
    conv => whnf
    refine OpTo.rowAt hTh rfl rfl rfl rfl rfl rfl rfl ld rfl (by omega) (by omega) ?_
    conv => whnf
    refine OpTo.rowStore hTh k 0 ((upTo (lateD r f by_) r.dep (k + 1)).map cI) rfl rfl rfl rfl ld rfl rfl (one_lenI _) atd (by omega) (by decide) (by rw [← setd]; rfl) ?_
    conv => whnf
    have seta : lateA r f by_ k = r.arr.getD k 0 + by_ → ((upTo (lateA r f by_) r.arr k).map cI).set k (cI (r.arr.getD k 0 + by_)) = (upTo (lateA r f by_) r.arr (k + 1)).map cI := fun va => by rw [← List.map_set, ← va, upTo_set _ hlt2]
    refine cond_split (fun h8 => ?_) (fun h8 => ?_)
    · have va : lateA r f by_ k = r.arr.getD k 0 + by_ := by unfold lateA; rw [if_pos (.inl (by have := of_decide_eq_true h8; omega))]
      conv => whnf
      refine OpTo.rowAt hTh rfl rfl rfl rfl rfl rfl rfl la rfl (by omega) (by omega) ?_
      conv => whnf
      refine OpTo.rowLoad hTh k 0 rfl rfl rfl rfl la (one_lenI _) ata (by omega) (by decide) (by decide) rfl ?_
      conv => whnf
      refine WrapTo.i64 (by omega) ?_
      conv => whnf
      refine OpTo.rowAt hTh rfl rfl rfl rfl rfl rfl rfl la rfl (by omega) (by omega) ?_
      conv => whnf
      refine OpTo.rowStore hTh k 0 ((upTo (lateA r f by_) r.arr (k + 1)).map cI) rfl rfl rfl rfl la rfl rfl (one_lenI _) ata (by omega) (by decide) (by rw [← seta va]; rfl) ?_
      conv => whnf
      refine WrapTo.i64 (by omega) ?_
      conv => whnf
      refine LoopOK.weak _ _ ?_ ?_ ?_ (IH (k + 1) (by omega) ⟨by omega, by omega⟩)
      · exact ⟨rfl, rfl, rfl, rfl, rfl, trivial⟩
      · exact ⟨rfl, rfl, rfl, rfl, trivial⟩
      · exact chk_mk ⟨rfl, rfl, rfl, rfl, rfl, trivial⟩ ⟨rfl, rfl, cloX_row (l := (0, 0)) (e := 0) (sz := 0) (Clo.map fI _), cloX_row (l := (0, 0)) (e := 0) (sz := 0) (Clo.map fI _), trivial⟩ rfl
    have h8' : ¬ f < k := by have := of_decide_eq_false h8; omega
    conv => whnf
    refine cond_split (fun h9 => ?_) (fun h9 => ?_)
    · have h9' : k = 0 := by simpa using h9
      have va : lateA r f by_ k = r.arr.getD k 0 + by_ := by unfold lateA; rw [if_pos (.inr (by omega))]
      conv => whnf
      refine OpTo.rowAt hTh rfl rfl rfl rfl rfl rfl rfl la rfl (by omega) (by omega) ?_
      conv => whnf
      refine OpTo.rowLoad hTh k 0 rfl rfl rfl rfl la (one_lenI _) ata (by omega) (by decide) (by decide) rfl ?_
      conv => whnf
      refine WrapTo.i64 (by omega) ?_
      conv => whnf
      refine OpTo.rowAt hTh rfl rfl rfl rfl rfl rfl rfl la rfl (by omega) (by omega) ?_
      conv => whnf
      refine OpTo.rowStore hTh k 0 ((upTo (lateA r f by_) r.arr (k + 1)).map cI) rfl rfl rfl rfl la rfl rfl (one_lenI _) ata (by omega) (by decide) (by rw [← seta va]; rfl) ?_
      conv => whnf
      refine WrapTo.i64 (by omega) ?_
      conv => whnf
      refine LoopOK.weak _ _ ?_ ?_ ?_ (IH (k + 1) (by omega) ⟨by omega, by omega⟩)
      · exact ⟨rfl, rfl, rfl, rfl, rfl, trivial⟩
      · exact ⟨rfl, rfl, rfl, rfl, trivial⟩
      · exact chk_mk ⟨rfl, rfl, rfl, rfl, rfl, trivial⟩ ⟨rfl, rfl, cloX_row (l := (0, 0)) (e := 0) (sz := 0) (Clo.map fI _), cloX_row (l := (0, 0)) (e := 0) (sz := 0) (Clo.map fI _), trivial⟩ rfl
    · have h9' : ¬ k = 0 := by simpa using h9
      have va : lateA r f by_ k = r.arr.getD k 0 := by unfold lateA; rw [if_neg (by omega)]
      conv => whnf
      refine WrapTo.i64 (by omega) ?_
      conv => whnf
      refine LoopOK.weak _ _ ?_ ?_ ?_ (IH (k + 1) (by omega) ⟨by omega, by omega⟩)
      · exact ⟨rfl, rfl, rfl, rfl, rfl, trivial⟩
      · exact ⟨rfl, rfl, congrArg (fun z : List Int => some (ABox.row T_i64 1 (z.map cI))) (upTo_same _ va).symm, rfl, trivial⟩
      · exact chk_mk ⟨rfl, rfl, rfl, rfl, rfl, trivial⟩ ⟨rfl, rfl, cloX_row (l := (0, 0)) (e := 0) (sz := 0) (Clo.map fI _), cloX_row (l := (0, 0)) (e := 0) (sz := 0) (Clo.map fI _), trivial⟩ rfl
  · have hge : r.dep.length ≤ k := by simpa using hz
    have ea := upTo_all (lateA r f by_) (l := r.arr) (k := k) (by omega)
    have ed := upTo_all (lateD r f by_) (l := r.dep) (k := k) hge
    rw [ea] at la ⊢
    rw [ed] at ld ⊢
    conv => whnf
    refine Fin.less [((90001, 7), .row T_i64 1 (((List.range r.arr.length).map (lateA r f by_)).map cI)), ((90002, 7), .row T_i64 1 (((List.range r.dep.length).map (lateD r f by_)).map cI))] [(6, .ref (F_expand_Later, 6) 0), (7, .int .i64 0)]
      [((F_expand_Later, 6), .cells T_api_Run (cRun ⟨r.trip, r.no, (List.range r.arr.length).map (lateA r f by_), (List.range r.dep.length).map (lateD r f by_)⟩))] ⟨.refl _, .refl _, trivial⟩
      ⟨⟨_, rfl, .cells (.cons (.refl _) (.cons (.refl _) (.cons (.own List.mem_cons_self la) (.cons (.own (List.mem_cons_of_mem _ List.mem_cons_self) ld) (.refl _)))))⟩, trivial⟩ ⟨rfl, Clo.map fI _, rfl, rfl, Clo.map fI _, rfl, trivial⟩ rfl ?_
    exact Fin.pure hTh [.agg (cRun ⟨r.trip, r.no, (List.range r.arr.length).map (lateA r f by_), (List.range r.dep.length).map (lateD r f by_)⟩), .int .i64 0] rfl rfl rfl
end Go.Proofs.YtmfolelgdpkkoaaGreatDoor
/- A run looked at; all runs, by the program. -/
set_option linter.unusedVariables false
set_option linter.unusedSimpArgs false
set_option maxRecDepth 10000
namespace Go.Ab
theorem oneE_ok {w : Wld} {trip no : Int} (h : (oneE w trip no).2 = 0) : (checkS w).err = 0 ∧ isT w trip = true := by
  unfold oneE at h
  split at h
  · cases h
  · rename_i h1
    split at h
    · rename_i h2; exact ⟨by simpa using h1, h2.1⟩
    · cases h
end Go.Ab
namespace Go.Proofs.YtmfolelgdpkkoaaGreatDoor
open Go Go.Ab
theorem m_expand_Check (G : GlP) (hR : Res G) (w : Wld) (hw : WldSmall w) (r : Rn) (hr : RnFits r) (hno : r.no ≤ 9223372036854775807) : Meets Pg G F_expand_Check [.agg (cWld w), .agg (cRun r)] [] (.int .i64 (checkR w r)) [] := by
  have f1 := hr.arr
  have e1 : (r.arr.map cI).length = r.arr.length := List.length_map _
  refine meets_pure (F := fe_expand_Check) hTh hMx func_expand_Check rfl call_expand_Check rfl rfl rfl ?_
  conv => whnf
  refine CallTo.fn (m_expand_One G hR w hw r.trip r.no hno) ?_
  conv => whnf
  refine cond_split (fun h => ?_) (fun h => ?_)
  · have h' : (oneE w r.trip r.no).2 ≠ 0 := by simpa using h
    have e : checkR w r = (oneE w r.trip r.no).2 := by unfold checkR; rw [if_pos h']
    rw [e]
    conv => whnf
    exact Fin.one hTh rfl (rfl) rfl
  have h' : (oneE w r.trip r.no).2 = 0 := by simpa using h
  obtain ⟨g1, g2⟩ := oneE_ok h'
  have hg := good_of g1
  obtain ⟨t, ht, htl⟩ := isT_spec g2
  have hgo := good_go hg htl
  have et : r.trip.toNat = t := by omega
  have e0 : checkR w r = if !timesB r || !(r.arr.length == (rteW w t).stops.length) then 2 else if w.hor < endR r then 9 else 0 := by
    unfold checkR
    rw [if_neg (by simpa using h'), et]
  conv => whnf
  refine CallTo.fn (m_expand_times G r hr) ?_
  conv => whnf
  cases htm : timesB r
  · have e : checkR w r = 2 := by rw [e0, htm]; rfl
    rw [e]
    conv => whnf
    refine ⟨by kernel_rfl, ?_⟩
    conv => whnf
    exact Fin.one hTh rfl (rfl) rfl
  have tl := (times_spec htm).1
  conv => whnf
  rw [ht]
  refine IndexTo.at (map_atD cTrpO ⟨0, 0, 0, 0⟩ htl) ?_
  conv => whnf
  refine IndexTo.atD cRteO ⟨[], [], []⟩ hgo.1 hgo.2.1 ?_
  conv => whnf
  refine ⟨by kernel_rfl, ?_⟩
  conv => whnf
  refine cond_split (fun h1 => ?_) (fun h1 => ?_)
  · have h1' : ¬ r.arr.length = (rteW w t).stops.length := by
      intro he
      rw [bne_iff_ne] at h1
      apply h1
      rw [e1, he]
      simp [rteW, trpW]
    have e : checkR w r = 2 := by rw [e0, htm, if_pos (by simpa using h1')]
    rw [e]
    conv => whnf
    exact Fin.one hTh rfl (rfl) rfl
  have h1' : r.arr.length = (rteW w t).stops.length := by
    rw [bne_eq_false_iff_eq, e1] at h1
    simp [rteW, trpW] at h1 ⊢
    omega
  conv => whnf
  refine CallTo.fn (m_expand_end G r (by omega) (by omega)) ?_
  conv => whnf
  refine ⟨by kernel_rfl, ?_⟩
  conv => whnf
  refine cond_split (fun h2 => ?_) (fun h2 => ?_)
  · have e : checkR w r = 9 := by rw [e0, htm, if_neg (by simpa using h1'), if_pos (of_decide_eq_true h2)]
    rw [e]
    conv => whnf
    exact Fin.one hTh rfl (rfl) rfl
  · have e : checkR w r = 0 := by rw [e0, htm, if_neg (by simpa using h1'), if_neg (of_decide_eq_false h2)]
    rw [e]
    conv => whnf
    exact Fin.one hTh rfl (rfl) rfl
theorem m_expand_each (G : GlP) (w : Wld) : Meets Pg G F_expand_each [.agg (cWld w)] [] (.fn (.func F_expand_each_1) [] [.pp (cWld w)]) [] := by
  refine meets_pure (F := fe_expand_each) hTh hMx func_expand_each rfl call_expand_each rfl rfl rfl ?_
  conv => whnf
  refine Fin.less [((F_expand_each, 1), .cells T_api_World (cWld w))] [(2, .fn (.func F_expand_each_1) [] [.pp (cWld w)])] [] ⟨.fn (.refl _) (.cons (.ref List.mem_cons_self) (.refl _)), trivial⟩ trivial ⟨rfl, rfl, rfl, trivial⟩ rfl ?_
  exact Fin.one hTh rfl (rfl) rfl
theorem m_expand_each_1 (G : GlP) (w : Wld) (hg : WldGood w) (hl : w.trips.length ≤ 65536) : Iter Pg G F_expand_each_1 [] [.pp (cWld w)] w.trips.length (fun i => [.int .i64 (i : Int), .int .i64 (countT w i : Int)]) := by
  intro lr S k fin hk hS hT hE
  have e1 : (w.trips.map cTrpO).length = w.trips.length := List.length_map _
  refine meets_iter (F := fe_expand_each_1) hTh hMx func_expand_each_1 rfl call_expand_each_1 rfl hS (hE.elim (fun h => ⟨_, h.2⟩) fun h => ⟨_, h.2.1⟩) (by simp [cloL, cloB, hS.here]) ?_
  conv => whnf
  refine LoopOK.forget [(0, .yv lr), (1, .pp (cWld w)), (6, .int .i64 (w.trips.map cTrpO).length), (7, .int .i64 (0 : Nat))] ⟨rfl, rfl, rfl, rfl, trivial⟩ ?_
  refine LoopOK.ind (fun i : Nat => w.trips.length - i) (fun i => [(0, .yv lr), (1, .pp (cWld w)), (6, .int .i64 (w.trips.map cTrpO).length), (7, .int .i64 i)]) S (fun i => i ≤ k) ?_ 0 (by omega)
  intro i hi IH
  refine LoopOK.round hTh hMx ?_
  conv => whnf
  refine cond_split (fun h => ?_) (fun hz => ?_)
  · have hlt : i < w.trips.length := by simpa using h
    conv => whnf
    refine CallTo.fn (m_expand_count G w i hl hlt (good_go hg hlt)) ?_
    conv => whnf
    rcases Nat.lt_or_ge i k with hik | hik
    · refine CallTo.yield (hT i hik) (hS.sup _ _) ?_
      simp only [consL_eq]
      conv => whnf
      refine WrapTo.i64 (by omega) ?_
      conv => whnf
      refine LoopOK.conv (Conv.sup (hS.sup _ _)) ?_
      refine LoopOK.forget _ ?_ (IH (i + 1) (by omega) (by omega))
      exact ⟨rfl, rfl, rfl, rfl, trivial⟩
    · have hik : i = k := by omega
      subst hik
      rcases hE with ⟨h1, h2⟩ | ⟨h1, h2, h3⟩
      · omega
      · subst h2
        refine CallTo.yield h3 (hS.sup _ _) ?_
        simp only [consL_eq]
        conv => whnf
        refine Fin.conv (Conv.sup (hS.sup _ _)) ?_
        exact Fin.all hTh rfl (hS.sup _ _) (hS.clo _)
  · have hge : w.trips.length ≤ i := by simpa using hz
    conv => whnf
    rcases hE with ⟨h1, h2⟩ | ⟨h1, h2, h3⟩
    · subst h2
      have : i = w.trips.length := by omega
      subst this
      exact Fin.all hTh rfl (hS.sup _ _) (hS.clo _)
    · omega
end Go.Proofs.YtmfolelgdpkkoaaGreatDoor
/- All runs, by the program. -/
set_option linter.unusedVariables false
set_option linter.unusedSimpArgs false
set_option maxRecDepth 10000
namespace Go.Ab
theorem countT_bd (w : Wld) (t : Nat) : countT w t ≤ 1099511627777 := by
  have h := srch_le (fun k => (oneS w t (k : Int)).2) 0 (countS (trpW w t).fr (trpW w t).ev (trpW w t).un).toNat (Nat.zero_le _)
  have := (countS_bd (trpW w t).fr (trpW w t).ev (trpW w t).un)
  unfold countT
  omega
theorem sumC_over {w : Wld} : ∀ {n : Nat}, 16384 < sumC w n → ∃ k, k < n ∧ sumC w k ≤ 16384 ∧ 16384 < sumC w (k + 1)
  | 0, h => by simp [sumC] at h
  | n + 1, h => by
    by_cases h1 : 16384 < sumC w n
    · obtain ⟨k, a, b, c⟩ := sumC_over h1
      exact ⟨k, by omega, b, c⟩
    · exact ⟨n, by omega, by omega, h⟩
end Go.Ab
namespace Go.Proofs.YtmfolelgdpkkoaaGreatDoor
open Go Go.Ab
def alLr : Lbl := (F_expand_All, 1000)
def alT : TL := [(1, .ref (F_expand_All, 1) 0), (2, .ref (F_expand_All, 2) 0), (3, .ref (F_expand_All, 3) 0), (4, .ref (F_expand_All, 4) 0)]
def alB (w : Wld) (n e : Int) : BL := [((F_expand_All, 1), .cells T_api_World (cWld w)), ((F_expand_All, 2), .cells T_S_api_Run [.emp]), ((F_expand_All, 3), .cells T_api_Errno [.int .i64 e]), ((F_expand_All, 4), .cells T_int [.int .i64 n])]
noncomputable def alS (w : Wld) (st : LoopState) (j : Option Code) (n e : Int) : BL := (alLr, .lrec st j (ld_expand_All 0) alT) :: alB w n e
theorem alClo (w : Wld) (st : LoopState) (j : Option Code) (n e : Int) : AllL (keyB (alS w st j n e)) (alS w st j n e) := ⟨rfl, rfl, rfl, rfl, rfl, trivial⟩
theorem y_All_go (G : GlP) (w : Wld) (i c n : Int) (h0 : 0 ≤ n ∧ n ≤ 16384) (hc : 0 ≤ c) (hle : n + c ≤ 16384) : MeetsV Pg G (.yv alLr) [.int .i64 i, .int .i64 c] (alS w .ready none n 0) (.bool true) (alS w .ready none (n + c) 0) := by
  refine MeetsV.yield (F := fe_expand_All) (jump := none) hTh hMx rfl rfl rfl rfl (alClo _ _ _ _ _) rfl (alClo _ _ _ _ _) rfl rfl fun b => ?_
  conv => whnf
  refine ⟨rfl, ?_⟩
  conv => whnf
  refine WrapTo.i64 (by omega) ?_
  conv => whnf
  refine cond_split (fun h => ?_) (fun h => ?_)
  · have := of_decide_eq_true h; omega
  conv => whnf
  exact ⟨rfl, rfl, rfl, rfl, rfl, rfl, trivial⟩
theorem y_All_stop (G : GlP) (w : Wld) (i c n : Int) (h0 : 0 ≤ n ∧ n ≤ 16384) (hc : 0 ≤ c ∧ c ≤ 1099511627777) (hgt : 16384 < n + c) : MeetsV Pg G (.yv alLr) [.int .i64 i, .int .i64 c] (alS w .ready none n 0) (.bool false) (alS w .done (some .ret) (n + c) 3) := by
  refine MeetsV.yield (F := fe_expand_All) (jump := some .ret) hTh hMx rfl rfl rfl rfl (alClo _ _ _ _ _) rfl (alClo _ _ _ _ _) rfl rfl fun b => ?_
  conv => whnf
  refine ⟨rfl, ?_⟩
  conv => whnf
  refine WrapTo.i64 (by omega) ?_
  conv => whnf
  refine cond_split (fun h => ?_) (fun h => ?_)
  · conv => whnf
    exact ⟨rfl, rfl, rfl, rfl, rfl, rfl, trivial⟩
  · have := of_decide_eq_false h; omega
def amLr : Lbl := (F_expand_All, 1001)
def amR : Lbl := (F_expand_All, 43)
def amT : TL := [(1, .ref (F_expand_All, 1) 0), (2, .ref (F_expand_All, 2) 0), (3, .ref (F_expand_All, 3) 0), (7, .ref (F_expand_All, 7) 0)]
def amB (w : Wld) (rs : List Rn) : BL := [((F_expand_All, 1), .cells T_api_World (cWld w)), ((F_expand_All, 2), .cells T_S_api_Run [.emp]), ((F_expand_All, 3), .cells T_api_Errno [.int .i64 0]), ((F_expand_All, 7), .cells T_S_api_Run [.own amR rs.length]), (amR, .row T_api_Run 4 (rs.map cRun))]
noncomputable def amS (w : Wld) (st : LoopState) (j : Option Code) (rs : List Rn) : BL := (amLr, .lrec st j (ld_expand_All 1) amT) :: amB w rs
theorem amClo (w : Wld) (st : LoopState) (j : Option Code) (rs : List Rn) : AllL (keyB (amS w st j rs)) (amS w st j rs) := ⟨rfl, rfl, rfl, rfl, rfl, cloX_row (l := jLr) (e := 0) (sz := 4) (Clo.map (fun _ => rfl) _), trivial⟩
theorem take_runs {w : Wld} {i k : Nat} (h : k < countT w i) (rs : List Rn) : rs ++ (runsT w i).take (k + 1) = (rs ++ (runsT w i).take k) ++ [(oneS w i (k : Int)).1] := by
  rw [List.append_assoc, List.take_succ_eq_append_getElem (by rw [runsT, List.length_map, List.length_range]; exact h)]
  simp [runsT]
theorem y_All_more (G : GlP) (w : Wld) (hg : WldGood w) (hl : w.trips.length ≤ 65536) (i : Nat) (hi : i < w.trips.length) (rs : List Rn) (hle : rs.length + countT w i ≤ 16384) :
    MeetsV Pg G (.yv amLr) [.int .i64 (i : Int), .int .i64 (countT w i : Int)] (amS w .ready none rs) (.bool true) (amS w .ready none (rs ++ runsT w i)) := by
  refine MeetsV.yield (F := fe_expand_All) (jump := none) hTh hMx rfl rfl rfl rfl (amClo _ _ _ _) rfl (amClo _ _ _ _) rfl rfl fun b => ?_
  conv => whnf
  refine ⟨rfl, ?_⟩
  conv => whnf
  have hT : (runsT w i).length = countT w i := by simp [runsT]
  refine LoopOK.weak _ _ ?_ ?_ ?_ (LoopOK.ind (fun k : Nat => countT w i - k) (fun k => [(1, .ref (F_expand_All, 1) 0), (2, .ref (F_expand_All, 2) 0), (3, .ref (F_expand_All, 3) 0), (7, .ref (F_expand_All, 7) 0), (8, .int .i64 (i : Int)), (29, .int .i64 (countT w i : Int)), (30, .int .i64 (k : Int))])
    (fun k => (amLr, .lrec .busy none (ld_expand_All 1) amT) :: amB w (rs ++ (runsT w i).take k)) (fun k => k ≤ countT w i) ?_ 0 (by omega))
  · exact ⟨rfl, rfl, rfl, rfl, rfl, rfl, rfl, trivial⟩
  · exact ⟨rfl, rfl, rfl, rfl, congrArg (fun n => some (ABox.cells T_S_api_Run [.own amR n])) (by simp), congrArg (fun z : List Rn => some (ABox.row T_api_Run 4 (z.map cRun))) (by simp), trivial⟩
  · exact chk_mk ⟨rfl, rfl, rfl, rfl, rfl, rfl, rfl, trivial⟩ ⟨rfl, rfl, rfl, rfl, rfl, cloX_row (l := jLr) (e := 0) (sz := 4) (Clo.map (fun _ => rfl) _), trivial⟩ rfl
  intro k hk IH
  have hlr : (rs ++ (runsT w i).take k).length = rs.length + k := by rw [List.length_append, List.length_take, hT]; omega
  have hlw : ((rs ++ (runsT w i).take k).map cRun).length = (rs ++ (runsT w i).take k).length := List.length_map _
  refine LoopOK.round hTh hMx ?_
  conv => whnf
  refine cond_split (fun h => ?_) (fun hz => ?_)
  · have hlt : k < countT w i := by simpa using h
    have hbd := countT_bd w i
    conv => whnf
    refine CallTo.fn (m_expand_one G w i (k : Int) (by omega) hl hi (good_go hg hi)) ?_
    conv => whnf
    refine ⟨hlw, by simp only [List.length_cons, List.length_nil]; omega, ?_⟩
    conv => whnf
    refine WrapTo.i64 (by omega) ?_
    conv => whnf
    refine LoopOK.weak _ _ ?_ ?_ ?_ (IH (k + 1) (by omega) (by omega))
    · exact ⟨rfl, rfl, rfl, rfl, rfl, rfl, rfl, trivial⟩
    · rw [take_runs hlt]
      exact ⟨rfl, rfl, rfl, rfl, congrArg (fun n => some (ABox.cells T_S_api_Run [.own amR n])) (by rw [List.length_append (bs := [_])]; rfl), congrArg (fun z => some (ABox.row T_api_Run 4 z)) (by rw [List.map_append (l₂ := [_])]; rfl), trivial⟩
    · exact chk_mk ⟨rfl, rfl, rfl, rfl, rfl, rfl, rfl, trivial⟩ ⟨rfl, rfl, rfl, rfl, rfl, cloX_row (l := jLr) (e := 0) (sz := 4) (Clo.map (fun _ => rfl) _), trivial⟩ rfl
  · have hge : countT w i ≤ k := by simpa using hz
    have e : rs ++ (runsT w i).take k = rs ++ runsT w i := by rw [List.take_of_length_le (by omega)]
    rw [e]
    conv => whnf
    exact ⟨rfl, rfl, rfl, rfl, rfl, rfl, rfl, trivial⟩
/-- Runs and a number, handed back out of two cells. -/
theorem fin_all {G : GlP} {F : FE} {fn : Func} {T : TL} {L : BL} (hΘ : TTok Pg F.Θ) (h1 : F.Θ T_S_api_Run = some ty_S_api_Run) (h2 : F.Θ T_api_Errno = some ty_api_Errno) (rs : List Rn) (e : Int) (a : AV) (Z : ZL) (hres : fn.results.toList = [.cell 2 T_S_api_Run, .cell 3 T_api_Errno]) {l l' : Lbl}
    (hT : getT T 2 = .ref l 0) (hT' : getT T 3 = .ref l' 0) (hL : getL L l = some (.cells T_S_api_Run [a])) (hL' : getL L l' = some (.cells T_api_Errno [.int .i64 e])) (hne : lbeq l l' = false) (hc : LeZ [] a (.lst 4 (rs.map cRun))) :
    Fin Pg G F [] fn (.tup [.lst 4 (rs.map cRun), .int .i64 e]) [] T L := by
  have hne' : lbeq l' l = false := lbeq_false.2 fun h => lbeq_false.1 hne h.symm
  refine Fin.less [] [(2, .ref l 0), (3, .ref l' 0)] [(l, .cells T_S_api_Run [.lst 4 (rs.map cRun)]), (l', .cells T_api_Errno [.int .i64 e])] ⟨by rw [hT]; exact .refl _, by rw [hT']; exact .refl _, trivial⟩ ⟨⟨_, hL, .cells (.cons hc (.refl _))⟩, ⟨_, hL', .refl _⟩, trivial⟩ trivial
    (chk_mk ⟨by simp [cloB, keyB, getL, lbeq_iff.2 rfl], by simp [cloB, keyB, getL, lbeq_iff.2 rfl, hne], trivial⟩ ⟨rfl, rfl, trivial⟩ rfl) ?_
  refine Fin.pure hΘ [.lst 4 (rs.map cRun), .int .i64 e] ?_ rfl rfl
  have L2 : getL [(l, .cells T_S_api_Run [.lst 4 (rs.map cRun)]), (l', .cells T_api_Errno [.int .i64 e])] l = some (.cells T_S_api_Run [.lst 4 (rs.map cRun)]) := by simp [getL, lbeq_iff.2 rfl]
  have L3 : getL [(l, .cells T_S_api_Run [.lst 4 (rs.map cRun)]), (l', .cells T_api_Errno [.int .i64 e])] l' = some (.cells T_api_Errno [.int .i64 e]) := by simp [getL, hne, lbeq_iff.2 rfl]
  have g2 : getT [(2, .ref l 0), (3, .ref l' 0)] 2 = .ref l 0 := rfl
  have g3 : getT [(2, .ref l 0), (3, .ref l' 0)] 3 = .ref l' 0 := rfl
  have t1 : takeV ty_api_Errno (([.int .i64 e] : List AV).drop 0) = some (.int .i64 e) := rfl
  have t2 : takeV ty_S_api_Run (([.lst 4 (rs.map cRun)] : List AV).drop 0) = some (.lst 4 (rs.map cRun)) := rfl
  rw [hres]
  simp only [resA, h1, h2, g2, g3, L3, t1]
  simp only [L2, t2]
theorem m_expand_All (G : GlP) (hR : Res G) (w : Wld) (hw : WldSmall w) : Meets Pg G F_expand_All [.agg (cWld w)] [] (.tup [.lst 4 ((allE w).1.map cRun), .int .i64 (allE w).2]) [] := by
  have hl := hw.fits.trips
  refine meets_pure (F := fe_expand_All) hTh hMx func_expand_All rfl call_expand_All rfl rfl rfl ?_
  conv => whnf
  refine CallTo.fn (m_expand_good G hR w hw) ?_
  conv => whnf
  cases h : ((checkS w).err == 0)
  · have h' : (checkS w).err ≠ 0 := by simpa using h
    have e : allE w = ([], 2) := by unfold allE; rw [if_pos h']
    rw [e]
    conv => whnf
    exact fin_all hTh rfl rfl [] 2 .emp [] rfl rfl rfl rfl rfl rfl (.emp 4)
  have h' : (checkS w).err = 0 := by simpa using h
  have hg := good_of h'
  conv => whnf
  refine CallTo.fn (m_expand_each G w) ?_
  conv => whnf
  by_cases hov : 16384 < sumC w w.trips.length
  · obtain ⟨k, k1, k2, k3⟩ := sumC_over hov
    have e : allE w = ([], 3) := by unfold allE; rw [if_neg (by simpa using h'), if_pos hov]
    have hs : sumC w (k + 1) = sumC w k + countT w k := rfl
    rw [e]
    refine CodeTo.range rfl rfl alLr rfl alT ⟨rfl, rfl, rfl, rfl, trivial⟩ (st := .done) (jump := some .ret) (fp' := alB w 0 0) (gp' := alB w (sumC w (k + 1) : Nat) 3) (r := .tup [])
      (m_expand_each_1 G w hg hl alLr (fun i => if i ≤ k then alS w .ready none (sumC w i : Nat) 0 else alS w .done (some .ret) (sumC w (k + 1) : Nat) 3) k (alS w .done (some .ret) (sumC w (k + 1) : Nat) 3) (by omega) ?_ (fun i hi => ?_) (.inr ⟨k1, ?_, ?_⟩))
      ⟨rfl, rfl, rfl, rfl, trivial⟩ rfl (by simp) alT (alB w (sumC w (k + 1) : Nat) 3) ⟨rfl, rfl, rfl, rfl, trivial⟩ ⟨rfl, rfl, rfl, rfl, trivial⟩ (chk_mk ⟨rfl, rfl, rfl, rfl, trivial⟩ ⟨rfl, rfl, rfl, rfl, trivial⟩ rfl) ?_
    · refine ⟨fun i => ?_, fun i l => ?_, ?_, fun d => ?_⟩
      · by_cases hi : i ≤ k
        · simp only [if_pos hi]; exact alClo _ _ _ _ _
        · simp only [if_neg hi]; exact alClo _ _ _ _ _
      · by_cases hi : i ≤ k
        · simp only [if_pos hi, if_pos (Nat.zero_le k), alS, alB, keyB_cons]
        · simp only [if_neg hi, if_pos (Nat.zero_le k), alS, alB, keyB_cons]
      · simp only [if_pos (Nat.zero_le k)]; rfl
      · simp only [if_pos (Nat.zero_le k)]; rfl
    · simp only [if_pos (show i ≤ k by omega), if_pos (show i + 1 ≤ k by omega)]
      have m := sumC_mono w (show i + 1 ≤ k by omega)
      have e2 : sumC w (i + 1) = sumC w i + countT w i := rfl
      have := y_All_go G w i (countT w i) (sumC w i : Nat) (by omega) (by omega) (by omega)
      rw [e2, Int.natCast_add]
      exact this
    · simp only [if_neg (show ¬ k + 1 ≤ k by omega)]
    · simp only [if_pos (Nat.le_refl k), if_neg (show ¬ k + 1 ≤ k by omega)]
      have hb := countT_bd w k
      have := y_All_stop G w k (countT w k) (sumC w k : Nat) (by omega) (by omega) (by omega)
      rw [hs, Int.natCast_add]
      exact this
    · conv => whnf
      exact fin_all hTh rfl rfl [] 3 .emp [] rfl rfl rfl rfl rfl rfl (.emp 4)
  · have e : allE w = (runsN w w.trips.length, 0) := by unfold allE; rw [if_neg (by simpa using h'), if_neg hov]
    have hk : ∀ i, i < w.trips.length → sumC w i + countT w i ≤ 16384 := fun i hi => by
      have := sumC_mono w (show i + 1 ≤ w.trips.length by omega)
      have e2 : sumC w (i + 1) = sumC w i + countT w i := rfl
      omega
    rw [e]
    refine CodeTo.range rfl rfl alLr rfl alT ⟨rfl, rfl, rfl, rfl, trivial⟩ (st := .ready) (jump := none) (fp' := alB w 0 0) (gp' := alB w (sumC w w.trips.length : Nat) 0) (r := .tup [])
      (m_expand_each_1 G w hg hl alLr (fun i => alS w .ready none (sumC w i : Nat) 0) w.trips.length (alS w .ready none (sumC w w.trips.length : Nat) 0) (Nat.le_refl _) ⟨fun i => alClo _ _ _ _ _, fun i l => by simp only [alS, alB, keyB_cons], rfl, fun d => rfl⟩ (fun i hi => ?_) (.inl ⟨rfl, rfl⟩))
      ⟨rfl, rfl, rfl, rfl, trivial⟩ rfl (by simp) alT (alB w (sumC w w.trips.length : Nat) 0) ⟨rfl, rfl, rfl, rfl, trivial⟩ ⟨rfl, rfl, rfl, rfl, trivial⟩ (chk_mk ⟨rfl, rfl, rfl, rfl, trivial⟩ ⟨rfl, rfl, rfl, rfl, trivial⟩ rfl) ?_
    · have e2 : sumC w (i + 1) = sumC w i + countT w i := rfl
      have := hk i hi
      have := y_All_go G w i (countT w i) (sumC w i : Nat) (by omega) (by omega) (by omega)
      rw [e2, Int.natCast_add]
      exact this
    conv => whnf
    refine CallTo.fn (m_expand_each G w) ?_
    conv => whnf
    refine CodeTo.conv (Conv.empOwnBox (F_expand_All, 7) 0 rfl rfl amR rfl T_api_Run 4) ?_
    refine CodeTo.range rfl rfl amLr rfl amT ⟨rfl, rfl, rfl, rfl, trivial⟩ (st := .ready) (jump := none) (fp' := amB w []) (gp' := amB w (runsN w w.trips.length)) (r := .tup [])
      (m_expand_each_1 G w hg hl amLr (fun i => amS w .ready none (runsN w i)) w.trips.length (amS w .ready none (runsN w w.trips.length)) (Nat.le_refl _) ⟨fun i => amClo _ _ _ _, fun i l => by simp only [amS, amB, keyB_cons], rfl, fun d => rfl⟩ (fun i hi => ?_) (.inl ⟨rfl, rfl⟩))
      ⟨rfl, rfl, rfl, rfl, rfl, trivial⟩ rfl (by simp) amT (amB w (runsN w w.trips.length)) ⟨rfl, rfl, rfl, rfl, trivial⟩ ⟨rfl, rfl, rfl, rfl, rfl, trivial⟩ (chk_mk ⟨rfl, rfl, rfl, rfl, trivial⟩ ⟨rfl, rfl, rfl, rfl, cloX_row (l := jLr) (e := 0) (sz := 4) (Clo.map (fun _ => rfl) _), trivial⟩ rfl) ?_
    · exact y_All_more G w hg hl i hi (runsN w i) (by rw [runsN_len]; exact hk i hi)
    conv => whnf
    refine Fin.less [(amR, .row T_api_Run 4 ((runsN w w.trips.length).map cRun))] [(2, .ref (F_expand_All, 2) 0), (3, .ref (F_expand_All, 3) 0)] [((F_expand_All, 2), .cells T_S_api_Run [.lst 4 ((runsN w w.trips.length).map cRun)]), ((F_expand_All, 3), .cells T_api_Errno [.int .i64 0])]
      ⟨.refl _, .refl _, trivial⟩ ⟨⟨_, rfl, .cells (.cons (.own List.mem_cons_self (by rw [List.length_map])) (.refl _))⟩, ⟨_, rfl, .refl _⟩, trivial⟩ ⟨rfl, Clo.map (fun _ => rfl) _, rfl, trivial⟩ rfl ?_
    exact fin_all hTh rfl rfl (runsN w w.trips.length) 0 _ [] rfl rfl rfl rfl rfl rfl (.refl _)
end Go.Proofs.YtmfolelgdpkkoaaGreatDoor
/- Runs: what moves with the first tick; which runs are there, in plain data. -/
set_option linter.unusedVariables false
set_option linter.unusedSimpArgs false
set_option maxRecDepth 10000
namespace Go.Ab
theorem goR_shift (r : RteO) (a d : Int) : ∀ k, goR r (a + d) k = ((goR r a k).1 + d, (goR r a k).2.1.map (· + d), (goR r a k).2.2.map (· + d))
  | 0 => rfl
  | k + 1 => by
    have ih := goR_shift r a d k
    simp only [goR, ih, List.map_append, List.map_cons, List.map_nil]
    have e : (goR r a k).1 + d + r.rides.getD k 0 = (goR r a k).1 + r.rides.getD k 0 + d := by omega
    rw [e]
    split
    · rename_i h
      have e2 : (goR r a k).1 + r.rides.getD k 0 + d + r.stays.getD k 0 = (goR r a k).1 + r.rides.getD k 0 + r.stays.getD k 0 + d := by omega
      rw [e2]
    · rfl
theorem goR_end (r : RteO) (a : Int) : ∀ k, r.stays.length ≤ k → (goR r a (k + 1)).2.1.getD (k + 1) 0 = (goR r a (k + 1)).1
  | k, h => by
    have hl := (goR_len r a k).1
    simp only [goR]
    rw [if_neg (by omega), List.getD_eq_getElem?_getD, List.getElem?_append_right (by omega), hl, Nat.sub_self]
    rfl
/-- How long a route takes. -/
def longR (r : RteO) : Int := (goR r 0 r.rides.length).1
theorem endR_run {r : RteO} (trip no a : Int) (h1 : 1 ≤ r.rides.length) (h2 : r.stays.length + 1 = r.rides.length) : endR (runR r trip no a) = a + longR r := by
  have hl := (goR_len r a r.rides.length).1
  have e := goR_shift r 0 a r.rides.length
  rw [Int.zero_add] at e
  obtain ⟨k, hk⟩ : ∃ k, r.rides.length = k + 1 := ⟨r.rides.length - 1, by omega⟩
  simp only [endR, runR, hl]
  rw [hk, Nat.add_sub_cancel, goR_end r a k (by omega), ← hk]
  have := congrArg Prod.fst e
  rw [this, longR]
  simp only
  omega
theorem longR_nonneg {r : RteO} (h1 : ∀ n ∈ r.rides, tickOK n = true) (h2 : ∀ n ∈ r.stays, tickOK n = true) : 0 ≤ longR r := (goR_bd ⟨by decide, by decide⟩ h1 h2 _ (Nat.le_refl _)).1
/-- A search by halving of what holds up to a place and not behind. -/
theorem srch_at {p : Nat → Bool} {m : Nat} (hp : ∀ k, p k = decide (k < m)) (lo hi : Nat) : lo ≤ m → m ≤ hi → srch p lo hi = m := by
  induction lo, hi using srch.induct p with
  | case1 lo hi h hq ih =>
    intro h1 h2
    rw [srch, dif_pos h, if_pos hq]
    rw [hp] at hq
    have := of_decide_eq_true hq
    exact ih (by omega) h2
  | case2 lo hi h hq ih =>
    intro h1 h2
    rw [srch, dif_pos h, if_neg hq]
    rw [hp] at hq
    have : ¬ (lo + hi) / 2 < m := by simpa using hq
    exact ih h1 (by omega)
  | case3 lo hi h =>
    intro h1 h2
    rw [srch, dif_neg h]
    omega
theorem down_form {p : Nat → Bool} (hd : ∀ k, p (k + 1) = true → p k = true) : ∀ N, p N = false → ∃ m, m ≤ N ∧ ∀ k, p k = decide (k < m)
  | 0, h0 => ⟨0, Nat.le_refl _, fun k => by
    have : ∀ k, p k = false := fun k => by
      induction k with
      | zero => exact h0
      | succ k ih => cases hk : p (k + 1) with
        | false => rfl
        | true => rw [hd k hk] at ih; cases ih
    simp [this k]⟩
  | N + 1, h => by
    cases hN : p N with
    | false => obtain ⟨m, h1, h2⟩ := down_form hd N hN; exact ⟨m, by omega, h2⟩
    | true =>
      refine ⟨N + 1, Nat.le_refl _, fun k => ?_⟩
      have up : ∀ d, p (N + 1 + d) = false := fun d => by
        induction d with
        | zero => exact h
        | succ d ih => cases hk : p (N + 1 + (d + 1)) with
          | false => rfl
          | true => rw [hd (N + 1 + d) hk] at ih; cases ih
      have dn : ∀ d, d ≤ N → p (N - d) = true := fun d => by
        induction d with
        | zero => intro _; exact hN
        | succ d ih =>
          intro hd'
          have h1 := ih (by omega)
          rw [show N - d = N - (d + 1) + 1 by omega] at h1
          exact hd _ h1
      by_cases hk : k < N + 1
      · have := dn (N - k) (by omega)
        rw [show N - (N - k) = k by omega] at this
        simp [this, hk]
      · have := up (k - (N + 1))
        rw [show N + 1 + (k - (N + 1)) = k by omega] at this
        simp [this, hk]
/-- When a run of a trip leaves; whether it is there. -/
def trpAt (t : TrpO) (k : Int) : Int := t.fr + t.ev * k
theorem count_pos {t : TrpO} {k : Int} (h0 : 0 ≤ k) (h : k < countS t.fr t.ev t.un) : atS t.fr t.ev k = (trpAt t k, 0) ∧ trpAt t k ≤ t.un ∧ (t.ev = 0 → k = 0) ∧ tickOK t.fr = true ∧ tickOK t.ev = true ∧ tickOK t.un = true := by
  unfold countS at h
  split at h
  · rename_i hc
    simp only [Bool.and_eq_true, decide_eq_true_eq] at hc
    obtain ⟨⟨⟨h1, h2⟩, h3⟩, h4⟩ := hc
    have g1 := h1
    have g2 := h2
    have g3 := h3
    simp only [tickOK, Bool.and_eq_true, decide_eq_true_eq] at g1 g2 g3
    split at h
    · rename_i he
      obtain rfl : k = 0 := by omega
      refine ⟨?_, by simp [trpAt]; omega, fun _ => rfl, h1, h2, h3⟩
      unfold atS trpAt
      rw [if_pos]
      simp [h1, h2, g1]
    · rename_i he
      have hdiv : t.ev * k ≤ t.un - t.fr := by
        have h5 : k ≤ (t.un - t.fr).tdiv t.ev := by omega
        rw [Int.tdiv_eq_ediv_of_nonneg (by omega)] at h5
        have h6 : t.ev * k ≤ t.ev * ((t.un - t.fr) / t.ev) := Int.mul_le_mul_of_nonneg_left h5 (by omega)
        have h7 := Int.mul_ediv_self_le (x := t.un - t.fr) (k := t.ev) he
        omega
      refine ⟨?_, by simp only [trpAt]; omega, fun h => absurd h he, h1, h2, h3⟩
      unfold atS trpAt
      rw [if_pos]
      have : ¬ t.ev = 0 := he
      simp [h1, h2, h0, this]
      omega
  · omega
theorem rteW_in {w : Wld} (hg : WldGood w) {trip : Nat} (ht : trip < w.trips.length) : rteW w trip ∈ w.routes := by
  have h := inB_spec (hg.sound.tripA _ (getD_in (d := ⟨0, 0, 0, 0⟩) ht))
  have h1 := hg.sound.routes
  exact getD_in (d := ⟨[], [], []⟩) (show (trpW w trip).route.toNat < w.routes.length by have h2 : 0 ≤ (trpW w trip).route ∧ (trpW w trip).route < (w.names.routes.length : Int) := h; omega)
theorem rteW_len {w : Wld} (hg : WldGood w) {trip : Nat} (ht : trip < w.trips.length) : (rteW w trip).rides.length + 1 = (rteW w trip).stops.length ∧ (rteW w trip).stays.length + 2 = (rteW w trip).stops.length ∧ (rteW w trip).stops.length ≤ 32 := hg.rlen _ (rteW_in hg ht)
theorem longR_W {w : Wld} (hg : WldGood w) {trip : Nat} (ht : trip < w.trips.length) : 0 ≤ longR (rteW w trip) := longR_nonneg (hg.rides _ (rteW_in hg ht)) (hg.stays _ (rteW_in hg ht))
theorem endR_W {w : Wld} (hg : WldGood w) {trip : Nat} (ht : trip < w.trips.length) (h2 : 2 ≤ (rteW w trip).stops.length) (n a : Int) : endR (runR (rteW w trip) trip n a) = a + longR (rteW w trip) := by
  have := rteW_len hg ht
  exact endR_run _ _ _ (by omega) (by omega)
theorem one_there {w : Wld} (hg : WldGood w) {trip : Nat} (ht : trip < w.trips.length) (h2 : 2 ≤ (rteW w trip).stops.length) (k : Nat) :
    (oneS w trip k).2 = decide ((k : Int) < countS (trpW w trip).fr (trpW w trip).ev (trpW w trip).un ∧ trpAt (trpW w trip) k + longR (rteW w trip) ≤ w.hor) ∧
    ((oneS w trip k).2 = true → (oneS w trip k).1 = runR (rteW w trip) trip k (trpAt (trpW w trip) k)) := by
  have hl := longR_W hg ht
  simp only [oneS]
  by_cases hc : (k : Int) < 0 ∨ countS (trpW w trip).fr (trpW w trip).ev (trpW w trip).un ≤ (k : Int)
  · rw [if_pos hc]
    refine ⟨?_, fun h => by cases h⟩
    have : ¬ (k : Int) < countS (trpW w trip).fr (trpW w trip).ev (trpW w trip).un := by omega
    simp [this]
  · rw [if_neg hc]
    have hk : (k : Int) < countS (trpW w trip).fr (trpW w trip).ev (trpW w trip).un := by omega
    have hp := count_pos (Int.natCast_nonneg k) hk
    simp only [hp.1]
    by_cases hh : w.hor < trpAt (trpW w trip) k
    · rw [if_pos (.inr hh)]
      refine ⟨?_, fun h => by cases h⟩
      have : ¬ trpAt (trpW w trip) k + longR (rteW w trip) ≤ w.hor := by omega
      simp [this]
    · rw [if_neg (by rintro (h | h); exact h rfl; exact hh h)]
      refine ⟨?_, fun _ => rfl⟩
      simp only [endR_W hg ht h2, hk, true_and]
/-- The runs that are there are the first ones. -/
theorem runs_form {w : Wld} (hg : WldGood w) {trip : Nat} (ht : trip < w.trips.length) (h2 : 2 ≤ (rteW w trip).stops.length) : ∀ k : Nat, (oneS w trip k).2 = decide (k < countT w trip) := by
  have hN : (oneS w trip (countS (trpW w trip).fr (trpW w trip).ev (trpW w trip).un).toNat).2 = false := by
    rw [(one_there hg ht h2 _).1]
    have := (countS_bd (trpW w trip).fr (trpW w trip).ev (trpW w trip).un).1
    simp
    omega
  obtain ⟨m, h1, h3⟩ := down_form (p := fun k : Nat => (oneS w trip k).2) (fun k hk => by
    rw [(one_there hg ht h2 _).1] at hk ⊢
    have hk := of_decide_eq_true hk
    have he := hg.trips _ (getD_in (d := ⟨0, 0, 0, 0⟩) ht)
    have he2 : 0 ≤ (trpW w trip).ev := by
      have := he.2.1
      simp only [tickOK, Bool.and_eq_true, decide_eq_true_eq] at this
      exact this.1
    refine decide_eq_true ⟨by omega, ?_⟩
    have hm : trpAt (trpW w trip) (k : Int) ≤ trpAt (trpW w trip) ((k + 1 : Nat) : Int) := by
      simp only [trpAt]
      have : (trpW w trip).ev * (k : Int) ≤ (trpW w trip).ev * ((k + 1 : Nat) : Int) := Int.mul_le_mul_of_nonneg_left (by omega) he2
      omega
    omega) _ hN
  have := srch_at (p := fun k : Nat => (oneS w trip k).2) h3 0 (countS (trpW w trip).fr (trpW w trip).ev (trpW w trip).un).toNat (Nat.zero_le _) h1
  have e : countT w trip = m := this
  rw [e]
  exact h3
end Go.Ab
/- All runs, where the horizon is farther, in plain data. -/
set_option linter.unusedVariables false
set_option linter.unusedSimpArgs false
set_option maxRecDepth 10000
namespace Go.Ab
theorem runsT_len (w : Wld) (t : Nat) : (runsT w t).length = countT w t := by simp [runsT]
theorem runsN_at (w : Wld) : ∀ (n t k : Nat), t < n → k < countT w t → (runsN w n)[sumC w t + k]? = some (oneS w t (k : Int)).1
  | 0, t, k, h, _ => by omega
  | n + 1, t, k, h, hk => by
    have hl := runsN_len w n
    simp only [runsN]
    rcases Nat.lt_succ_iff_lt_or_eq.1 h with h' | rfl
    · have h1 := runsN_at w n t k h' hk
      rw [List.getElem?_append_left (List.getElem?_eq_some_iff.1 h1).1]
      exact h1
    · rw [List.getElem?_append_right (by omega), hl, Nat.add_sub_cancel_left]
      simp [runsT, hk]
theorem runsN_first (w : Wld) : ∀ (n t : Nat), t ≤ n → sumC w t < (runsN w n).length → ∃ u, t ≤ u ∧ u < n ∧ 0 < countT w u ∧ (runsN w n)[sumC w t]? = some (oneS w u ((0 : Nat) : Int)).1
  | n, t, h, hl => by
    by_cases ht : t = n
    · subst ht
      rw [runsN_len] at hl
      omega
    · by_cases hc : countT w t = 0
      · have e : sumC w (t + 1) = sumC w t := by simp [sumC, hc]
        obtain ⟨u, h1, h2, h3, h4⟩ := runsN_first w n (t + 1) (by omega) (by rw [e]; exact hl)
        exact ⟨u, by omega, h2, h3, by rw [e] at h4; exact h4⟩
      · have := runsN_at w n t 0 (by omega) (by omega)
        exact ⟨t, Nat.le_refl _, by omega, by omega, this⟩
termination_by n t => n - t
/-- How far one is in the shorter list behind i of the longer one. -/
def matN (a b : List Rn) : Nat → Nat
  | 0 => 0
  | i + 1 => if matN a b i < a.length ∧ (b.getD i rn0).trip = (a.getD (matN a b i) rn0).trip ∧ (b.getD i rn0).no = (a.getD (matN a b i) rn0).no then matN a b i + 1 else matN a b i
structure Farther (w v : Wld) (n : Nat) : Prop where
  le : ∀ t, t < n → countT w t ≤ countT v t
  eq : ∀ t k : Nat, t < n → k < countT w t → (oneS v t (k : Int)).1 = (oneS w t (k : Int)).1
  keyW : ∀ t k : Nat, t < n → k < countT w t → (oneS w t (k : Int)).1.trip = t ∧ (oneS w t (k : Int)).1.no = k
  keyV : ∀ t k : Nat, t < n → k < countT v t → (oneS v t (k : Int)).1.trip = t ∧ (oneS v t (k : Int)).1.no = k
theorem getD_some {α : Type} {l : List α} {i : Nat} {x : α} (d : α) (h : l[i]? = some x) : l.getD i d = x := by simp [List.getD, h]
theorem mat_at {w v : Wld} {n : Nat} (hf : Farther w v n) : ∀ t k, t < n → k ≤ countT v t → matN (runsN w n) (runsN v n) (sumC v t) = sumC w t → matN (runsN w n) (runsN v n) (sumC v t + k) = sumC w t + min k (countT w t)
  | t, 0, ht, hk, h0 => by simpa using h0
  | t, k + 1, ht, hk, h0 => by
    have ih := mat_at hf t k ht (by omega) h0
    have hb := getD_some rn0 (runsN_at v n t k ht (by omega))
    have hkV := hf.keyV t k ht (by omega)
    rw [← Nat.add_assoc]
    simp only [matN, ih, hb, hkV.1, hkV.2]
    by_cases hlt : k < countT w t
    · have ha := runsN_at w n t k ht hlt
      have hkW := hf.keyW t k ht hlt
      rw [Nat.min_eq_left (by omega), Nat.min_eq_left (by omega)]
      rw [getD_some rn0 ha, hkW.1, hkW.2, if_pos ⟨(List.getElem?_eq_some_iff.1 ha).1, rfl, rfl⟩]
      omega
    · rw [Nat.min_eq_right (by omega), Nat.min_eq_right (by omega)]
      rw [if_neg]
      rintro ⟨h1, h2, h3⟩
      have e : sumC w t + countT w t = sumC w (t + 1) := rfl
      rw [e] at h1 h2
      obtain ⟨u, g1, g2, g3, g4⟩ := runsN_first w n (t + 1) (by omega) h1
      rw [getD_some rn0 g4, (hf.keyW u 0 g2 g3).1] at h2
      omega
theorem mat_start {w v : Wld} {n : Nat} (hf : Farther w v n) : ∀ t, t ≤ n → matN (runsN w n) (runsN v n) (sumC v t) = sumC w t
  | 0, _ => rfl
  | t + 1, h => by
    have := mat_at hf t (countT v t) (by omega) (Nat.le_refl _) (mat_start hf t (by omega))
    rw [Nat.min_eq_right (hf.le t (by omega))] at this
    exact this
theorem mat_all {w v : Wld} {n : Nat} (hf : Farther w v n) : matN (runsN w n) (runsN v n) (runsN v n).length = (runsN w n).length := by
  rw [runsN_len, runsN_len]
  exact mat_start hf n (Nat.le_refl _)
theorem where_is (v : Wld) : ∀ n i, i < sumC v n → ∃ t k, t < n ∧ k < countT v t ∧ i = sumC v t + k
  | 0, i, h => by simp [sumC] at h
  | n + 1, i, h => by
    by_cases hi : i < sumC v n
    · obtain ⟨t, k, h1, h2, h3⟩ := where_is v n i hi
      exact ⟨t, k, by omega, h2, h3⟩
    · simp only [sumC] at h
      exact ⟨n, i - sumC v n, by omega, by omega, by omega⟩
/-- Where the numbers agree, the runs do. -/
theorem mat_same {w v : Wld} {n : Nat} (hf : Farther w v n) {i : Nat} (hi : i < (runsN v n).length) (ha : matN (runsN w n) (runsN v n) i < (runsN w n).length)
    (h1 : ((runsN v n).getD i rn0).trip = ((runsN w n).getD (matN (runsN w n) (runsN v n) i) rn0).trip) (h2 : ((runsN v n).getD i rn0).no = ((runsN w n).getD (matN (runsN w n) (runsN v n) i) rn0).no) :
    (runsN w n).getD (matN (runsN w n) (runsN v n) i) rn0 = (runsN v n).getD i rn0 := by
  rw [runsN_len] at hi
  obtain ⟨t, k, g1, g2, rfl⟩ := where_is v n i hi
  have hm := mat_at hf t k g1 (by omega) (mat_start hf t (by omega))
  rw [hm] at ha h1 h2 ⊢
  have hb := getD_some rn0 (runsN_at v n t k g1 g2)
  have hkV := hf.keyV t k g1 g2
  rw [hb] at h1 h2 ⊢
  by_cases hlt : k < countT w t
  · rw [Nat.min_eq_left (by omega)] at ha h1 h2 ⊢
    rw [getD_some rn0 (runsN_at w n t k g1 hlt)]
    exact (hf.eq t k g1 hlt).symm
  · rw [Nat.min_eq_right (by omega)] at ha h1 h2
    have e : sumC w t + countT w t = sumC w (t + 1) := rfl
    rw [e] at ha h1
    obtain ⟨u, q1, q2, q3, q4⟩ := runsN_first w n (t + 1) (by omega) ha
    rw [getD_some rn0 q4, (hf.keyW u 0 q2 q3).1, hkV.1] at h1
    omega
theorem routes_two {w : Wld} (h : (checkS w).err = 0) : ∀ r ∈ w.routes, 2 ≤ r.stops.length := by
  intro r hr
  unfold checkS at h
  split at h
  · have h0 : shtErr (toldS w) = 0 := by
      unfold makeE at h
      split at h
      · assumption
      · exact h
    have hk := shtOK_of h0
    obtain ⟨i, hi, rfl⟩ := List.getElem_of_mem hr
    have := hk.routes (tRte w i) (List.mem_map.2 ⟨i, List.mem_range.2 hi, rfl⟩)
    simp only [rteOK, tRte, List.length_map, Bool.and_eq_true, decide_eq_true_eq, beq_iff_eq, getD_at _ hi] at this
    omega
  · exact absurd h (by decide)
theorem farther_of {w : Wld} {by_ : Int} (h0 : 0 ≤ by_) (h1 : (checkS w).err = 0) (h2 : (checkS { w with hor := w.hor + by_ }).err = 0) : Farther w { w with hor := w.hor + by_ } w.trips.length := by
  have g1 := good_of h1
  have g2 := good_of h2
  have two : ∀ t, t < w.trips.length → 2 ≤ (rteW w t).stops.length := fun t ht => routes_two h1 _ (rteW_in g1 ht)
  have f1 : ∀ t (k : Nat), t < w.trips.length → (k < countT w t ↔ ((k : Int) < countS (trpW w t).fr (trpW w t).ev (trpW w t).un ∧ trpAt (trpW w t) k + longR (rteW w t) ≤ w.hor)) := fun t k ht => by
    have := runs_form g1 ht (two t ht) k
    rw [(one_there g1 ht (two t ht) k).1] at this
    exact (decide_eq_decide.1 this).symm
  have f2 : ∀ t (k : Nat), t < w.trips.length → (k < countT { w with hor := w.hor + by_ } t ↔ ((k : Int) < countS (trpW w t).fr (trpW w t).ev (trpW w t).un ∧ trpAt (trpW w t) k + longR (rteW w t) ≤ w.hor + by_)) := fun t k ht => by
    have := runs_form g2 (trip := t) ht (two t ht) k
    rw [(one_there g2 (trip := t) ht (two t ht) k).1] at this
    exact (decide_eq_decide.1 this).symm
  have o1 : ∀ t (k : Nat), t < w.trips.length → k < countT w t → (oneS w t (k : Int)).1 = runR (rteW w t) t k (trpAt (trpW w t) k) := fun t k ht hk => (one_there g1 ht (two t ht) k).2 (by rw [runs_form g1 ht (two t ht) k]; exact decide_eq_true hk)
  have o2 : ∀ t (k : Nat), t < w.trips.length → k < countT { w with hor := w.hor + by_ } t → (oneS { w with hor := w.hor + by_ } t (k : Int)).1 = runR (rteW w t) t k (trpAt (trpW w t) k) := fun t k ht hk => (one_there g2 (trip := t) ht (two t ht) k).2 (by rw [runs_form g2 (trip := t) ht (two t ht) k]; exact decide_eq_true hk)
  have le : ∀ t, t < w.trips.length → countT w t ≤ countT { w with hor := w.hor + by_ } t := fun t ht => by
    rcases Nat.lt_or_ge (countT { w with hor := w.hor + by_ } t) (countT w t) with h | h
    · have := (f1 t _ ht).1 h
      have := (f2 t (countT { w with hor := w.hor + by_ } t) ht).2 ⟨this.1, by omega⟩
      omega
    · exact h
  refine ⟨le, fun t k ht hk => ?_, fun t k ht hk => ?_, fun t k ht hk => ?_⟩
  · rw [o1 t k ht hk, o2 t k ht (Nat.lt_of_lt_of_le hk (le t ht))]
  · rw [o1 t k ht hk]; exact ⟨rfl, rfl⟩
  · rw [o2 t k ht hk]; exact ⟨rfl, rfl⟩
end Go.Ab
/- A trip's run by its number, by the document; how many there are. -/
set_option linter.unusedVariables false
set_option linter.unusedSimpArgs false
set_option maxRecDepth 10000
namespace Go.Ab
theorem endR_goR {r : RteO} (t no a : Int) (h1 : 1 ≤ r.rides.length) (h2 : r.stays.length + 1 = r.rides.length) : endR (runR r t no a) = (goR r a r.rides.length).1 := by
  have hl := (goR_len r a r.rides.length).1
  obtain ⟨k, hk⟩ : ∃ k, r.rides.length = k + 1 := ⟨r.rides.length - 1, by omega⟩
  simp only [endR, runR, hl]
  rw [hk, Nat.add_sub_cancel, goR_end r a k (by omega)]
/-- What is known of a trip whose runs are told. -/
structure TrpGo (w : Wld) (trip : Nat) : Prop where
  r0 : 0 ≤ (trpW w trip).route
  r1 : (trpW w trip).route < (w.routes.length : Int)
  go : RteGo (rteW w trip)
  two : 1 ≤ (rteW w trip).rides.length
  len : (rteW w trip).stays.length + 1 = (rteW w trip).rides.length
theorem trp_go {w : Wld} (he : (checkS w).err = 0) {trip : Nat} (ht : trip < w.trips.length) : TrpGo w trip := by
  have hg := good_of he
  have h := good_go hg ht
  have hin := rteW_in hg ht
  have h2 := routes_two he _ hin
  have h3 := hg.rlen _ hin
  exact ⟨h.1, h.2.1, h.2.2, by omega, by omega⟩
end Go.Ab
namespace Go.Proofs.YtmfolelgdpkkoaaGreatDoor
open Go Go.Ab
theorem m_ref10_run (G : GlP) (w : Wld) (trip : Nat) (no : Int) (hno : no ≤ 9223372036854775807) (hl : w.trips.length ≤ 65536) (ht : trip < w.trips.length) (hgo : TrpGo w trip) :
    Meets Pg G F_ref10_run [.agg (cWld w), .int .i64 (trip : Int), .int .i64 no] [] (.tup [.agg (cRun (oneS w trip no).1), .bool (oneS w trip no).2]) [] := by
  refine meets_pure (F := { fe_ref10_run with rows := [60, 62] }) hTh hMx func_ref10_run rfl call_ref10_run rfl rfl rfl ?_
  conv => whnf
  refine IndexTo.at (map_atD cTrpO ⟨0, 0, 0, 0⟩ ht) ?_
  conv => whnf
  refine cond_split (fun h1 => ?_) (fun h1 => ?_)
  · have h1' : no < 0 := by simpa using h1
    have e : oneS w trip no = (rn0, false) := by unfold oneS; rw [if_pos (.inl h1')]
    rw [e]
    conv => whnf
    exact fin_run hTh rfl rn0 (.bool false) 6 7 rfl zRun rfl (fun _ _ => rfl) (fun _ _ => rfl) rfl rfl rfl le_zRun
  have h1' : ¬ no < 0 := by simpa using h1
  conv => whnf
  refine CallTo.fn (m_ref01_Count G _ _ _) ?_
  conv => whnf
  refine cond_split (fun h2 => ?_) (fun h2 => ?_)
  · have h2' : countS (trpW w trip).fr (trpW w trip).ev (trpW w trip).un ≤ no := of_decide_eq_true h2
    have e : oneS w trip no = (rn0, false) := by unfold oneS; rw [if_pos (.inr h2')]
    rw [e]
    conv => whnf
    exact fin_run hTh rfl rn0 (.bool false) 6 7 rfl zRun rfl (fun _ _ => rfl) (fun _ _ => rfl) rfl rfl rfl le_zRun
  have h2' : ¬ countS (trpW w trip).fr (trpW w trip).ev (trpW w trip).un ≤ no := of_decide_eq_false h2
  have e0 : oneS w trip no = if (atS (trpW w trip).fr (trpW w trip).ev no).2 ≠ 0 ∨ w.hor < (atS (trpW w trip).fr (trpW w trip).ev no).1 then (rn0, false)
      else (runR (rteW w trip) trip no (atS (trpW w trip).fr (trpW w trip).ev no).1, decide (endR (runR (rteW w trip) trip no (atS (trpW w trip).fr (trpW w trip).ev no).1) ≤ w.hor)) := by
    unfold oneS; rw [if_neg (by rintro (h | h); exact h1' h; exact h2' h)]
  conv => whnf
  refine CallTo.fn (m_ref01_At G (trpW w trip).fr (trpW w trip).ev no hno) ?_
  conv => whnf
  refine cond_split (fun h3 => ?_) (fun h3 => ?_)
  · have h3' : (atS (trpW w trip).fr (trpW w trip).ev no).2 ≠ 0 := by simpa using h3
    have e : oneS w trip no = (rn0, false) := by rw [e0, if_pos (.inl h3')]
    rw [e]
    conv => whnf
    exact fin_run hTh rfl rn0 (.bool false) 6 7 rfl zRun rfl (fun _ _ => rfl) (fun _ _ => rfl) rfl rfl rfl le_zRun
  have h3' : (atS (trpW w trip).fr (trpW w trip).ev no).2 = 0 := by simpa using h3
  conv => whnf
  refine cond_split (fun h4 => ?_) (fun h4 => ?_)
  · have h4' : w.hor < (atS (trpW w trip).fr (trpW w trip).ev no).1 := of_decide_eq_true h4
    have e : oneS w trip no = (rn0, false) := by rw [e0, if_pos (.inr h4')]
    rw [e]
    conv => whnf
    exact fin_run hTh rfl rn0 (.bool false) 6 7 rfl zRun rfl (fun _ _ => rfl) (fun _ _ => rfl) rfl rfl rfl le_zRun
  have h4' : ¬ w.hor < (atS (trpW w trip).fr (trpW w trip).ev no).1 := of_decide_eq_false h4
  have e : oneS w trip no = (runR (rteW w trip) trip no (atS (trpW w trip).fr (trpW w trip).ev no).1, decide (endR (runR (rteW w trip) trip no (atS (trpW w trip).fr (trpW w trip).ev no).1) ≤ w.hor)) := by
    rw [e0, if_neg (by rintro (h | h); exact h h3'; exact h4' h)]
  rw [endR_goR _ _ _ hgo.two hgo.len] at e
  have hr := hgo.go
  have ha := atS_ok h3'
  have hb := tick_bd ha
  have f1 := hr.few
  have f2 := hr.fews
  rw [e]
  conv => whnf
  refine IndexTo.atD cRteO ⟨[], [], []⟩ hgo.r0 hgo.r1 ?_
  conv => whnf
  refine OpTo.mkRow hTh (F_ref10_run, 60) rfl rfl rfl rfl rfl (by decide) (by decide) (by decide) (by decide) rfl rfl ?_
  conv => whnf
  refine OpTo.mkRow hTh (F_ref10_run, 62) rfl rfl rfl rfl rfl (by decide) (by decide) (by decide) (by decide) rfl rfl ?_
  conv => whnf
  show LoopOK _ _ _ _ _ _ _ _
  generalize hA : (atS (trpW w trip).fr (trpW w trip).ev no).1 = a at *
  generalize hrr : rteW w trip = r at *
  refine LoopOK.weak _ _ ?_ ?_ ?_ (LoopOK.ind (fun k : Nat => r.rides.length - k) (fun k => [(3, .ref (F_ref10_run, 3) 0), (6, .ref (F_ref10_run, 6) 0), (9, .int .i64 (goR r a k).1), (11, .ref (F_ref10_run, 11) 0), (12, .ref (F_ref10_run, 12) 0), (13, .int .i64 k)])
    (fun k => [((F_ref10_run, 3), .cells T_api_World (cWld w)), ((F_ref10_run, 6), .cells T_api_Run (zcells ty_api_Run)), ((F_ref10_run, 11), .cells T_api_RouteOf (cRteO r)), ((F_ref10_run, 12), .cells T_api_Run [.int .i64 (trip : Int), .int .i64 no, .own (F_ref10_run, 60) (goR r a k).2.1.length, .own (F_ref10_run, 62) (goR r a k).2.2.length]), ((F_ref10_run, 60), .row T_i64 1 ((goR r a k).2.1.map cI)), ((F_ref10_run, 62), .row T_i64 1 ((goR r a k).2.2.map cI))])
    (fun k => k ≤ r.rides.length) ?_ 0 (by omega))
  · exact ⟨rfl, rfl, rfl, rfl, rfl, rfl, trivial⟩
  · exact ⟨rfl, rfl, by rw [← hrr]; rfl, rfl, rfl, rfl, trivial⟩
  · rfl
  intro k hk IH
  have hl := goR_len r a k
  have hbd := goR_bd hb hr.rides hr.stays k hk
  have e1 : ((goR r a k).2.1.map cI).length = (goR r a k).2.1.length := List.length_map _
  have e2 : ((goR r a k).2.2.map cI).length = (goR r a k).2.2.length := List.length_map _
  refine LoopOK.round hTh hMx ?_
  conv => whnf
  refine cond_split (fun h => ?_) (fun hz => ?_)
  · have hlt := lt_of_dec h
    have hrd := tick_bd (hr.rides _ (getD_in (d := 0) hlt))
    conv => whnf
    refine IndexTo.at (map_atD cI 0 hlt) ?_
    conv => whnf
    refine WrapTo.i64 (by omega) ?_
    conv => whnf
    refine ⟨e1, by simp only [List.length_cons, List.length_nil]; omega, ?_⟩
    conv => whnf
    refine cond_split (fun h1 => ?_) (fun h1 => ?_)
    · have h1' : k < r.stays.length := by simpa using h1
      have hst := tick_bd (hr.stays _ (getD_in (d := 0) h1'))
      have e : goR r a (k + 1) = ((goR r a k).1 + r.rides.getD k 0 + r.stays.getD k 0, (goR r a k).2.1 ++ [(goR r a k).1 + r.rides.getD k 0], (goR r a k).2.2 ++ [(goR r a k).1 + r.rides.getD k 0 + r.stays.getD k 0]) := by
        simp only [goR, if_pos h1']
      conv => whnf
      refine IndexTo.at (map_atD cI 0 h1') ?_
      conv => whnf
      refine WrapTo.i64 (by omega) ?_
      conv => whnf
      refine ⟨e2, by simp only [List.length_cons, List.length_nil]; omega, ?_⟩
      conv => whnf
      refine WrapTo.i64 (by omega) ?_
      conv => whnf
      refine LoopOK.weak _ _ ?_ ?_ ?_ (IH (k + 1) (by omega) hlt)
      · rw [e]; exact ⟨rfl, rfl, rfl, rfl, rfl, rfl, trivial⟩
      · rw [e]
        exact ⟨rfl, rfl, rfl, congr2 (fun x y => some (ABox.cells T_api_Run [.int .i64 (trip : Int), .int .i64 no, .own (F_ref10_run, 60) x, .own (F_ref10_run, 62) y])) (by simp) (by simp), congrArg (fun z => some (ABox.row T_i64 1 z)) (by simp [cI]), congrArg (fun z => some (ABox.row T_i64 1 z)) (by simp [cI]), trivial⟩
      · exact chk_mk ⟨rfl, rfl, rfl, rfl, rfl, rfl, trivial⟩ ⟨rfl, rfl, rfl, rfl, cloX_row (l := (0, 0)) (e := 0) (sz := 0) (Clo.map fI _), cloX_row (l := (0, 0)) (e := 0) (sz := 0) (Clo.map fI _), trivial⟩ rfl
    · have h1' : ¬ k < r.stays.length := by simpa using h1
      have e : goR r a (k + 1) = ((goR r a k).1 + r.rides.getD k 0, (goR r a k).2.1 ++ [(goR r a k).1 + r.rides.getD k 0], (goR r a k).2.2 ++ [(goR r a k).1 + r.rides.getD k 0]) := by
        simp only [goR, if_neg h1']
      conv => whnf
      refine ⟨e2, by simp only [List.length_cons, List.length_nil]; omega, ?_⟩
      conv => whnf
      refine WrapTo.i64 (by omega) ?_
      conv => whnf
      refine LoopOK.weak _ _ ?_ ?_ ?_ (IH (k + 1) (by omega) hlt)
      · rw [e]; exact ⟨rfl, rfl, rfl, rfl, rfl, rfl, trivial⟩
      · rw [e]
        exact ⟨rfl, rfl, rfl, congr2 (fun x y => some (ABox.cells T_api_Run [.int .i64 (trip : Int), .int .i64 no, .own (F_ref10_run, 60) x, .own (F_ref10_run, 62) y])) (by simp) (by simp), congrArg (fun z => some (ABox.row T_i64 1 z)) (by simp [cI]), congrArg (fun z => some (ABox.row T_i64 1 z)) (by simp [cI]), trivial⟩
      · exact chk_mk ⟨rfl, rfl, rfl, rfl, rfl, rfl, trivial⟩ ⟨rfl, rfl, rfl, rfl, cloX_row (l := (0, 0)) (e := 0) (sz := 0) (Clo.map fI _), cloX_row (l := (0, 0)) (e := 0) (sz := 0) (Clo.map fI _), trivial⟩ rfl
  · have hge := le_of_dec hz
    obtain rfl : k = r.rides.length := by omega
    conv => whnf
    refine ⟨by kernel_rfl, ?_⟩
    conv => whnf
    refine Fin.less [((F_ref10_run, 60), .row T_i64 1 ((goR r a r.rides.length).2.1.map cI)), ((F_ref10_run, 62), .row T_i64 1 ((goR r a r.rides.length).2.2.map cI))] [(6, .ref (F_ref10_run, 6) 0), (7, .bool (decide ((goR r a r.rides.length).1 ≤ w.hor)))] [((F_ref10_run, 6), .cells T_api_Run (cRun (runR r trip no a)))] ⟨.refl _, .refl _, trivial⟩
      ⟨⟨_, rfl, .cells (.cons (.refl _) (.cons (.refl _) (.cons (.own List.mem_cons_self e1) (.cons (.own (List.mem_cons_of_mem _ List.mem_cons_self) e2) (.refl _)))))⟩, trivial⟩ ⟨rfl, Clo.map fI _, rfl, rfl, Clo.map fI _, rfl, trivial⟩ rfl ?_
    exact Fin.pure hTh [.agg (cRun (runR r trip no a)), .bool (decide ((goR r a r.rides.length).1 ≤ w.hor))] rfl rfl rfl
end Go.Proofs.YtmfolelgdpkkoaaGreatDoor
/- Counts and runs, told by the document. -/
set_option linter.unusedVariables false
set_option linter.unusedSimpArgs false
set_option maxRecDepth 10000
namespace Go.Proofs.YtmfolelgdpkkoaaGreatDoor
open Go Go.Ab
theorem m_ref10_count (G : GlP) (w : Wld) (trip : Nat) (hl : w.trips.length ≤ 65536) (ht : trip < w.trips.length) (hgo : TrpGo w trip) :
    Meets Pg G F_ref10_count [.agg (cWld w), .int .i64 (trip : Int)] [] (.int .i64 (countT w trip : Int)) [] := by
  obtain ⟨n, hn⟩ : ∃ n : Nat, countS (trpW w trip).fr (trpW w trip).ev (trpW w trip).un = n := ⟨_, (Int.toNat_of_nonneg (countS_bd _ _ _).1).symm⟩
  have hb := countS_bd (trpW w trip).fr (trpW w trip).ev (trpW w trip).un
  have hc := m_ref01_Count G (trpW w trip).fr (trpW w trip).ev (trpW w trip).un
  rw [hn] at hc hb
  have e : countT w trip = srch (fun k => (oneS w trip k).2) 0 n := by unfold countT; rw [hn]; rfl
  rw [e]
  generalize hp : (fun k : Nat => (oneS w trip (k : Int)).2) = p
  have hpk : ∀ k : Nat, (oneS w trip (k : Int)).2 = p k := fun k => by rw [← hp]
  refine meets_pure (F := fe_ref10_count) hTh hMx func_ref10_count rfl call_ref10_count rfl rfl rfl ?_
  conv => whnf
  refine IndexTo.at (map_atD cTrpO ⟨0, 0, 0, 0⟩ ht) ?_
  conv => whnf
  refine IndexTo.at (map_atD cTrpO ⟨0, 0, 0, 0⟩ ht) ?_
  conv => whnf
  refine IndexTo.at (map_atD cTrpO ⟨0, 0, 0, 0⟩ ht) ?_
  conv => whnf
  refine CallTo.fn (hc) ?_
  conv => whnf
  refine ⟨by kernel_rfl, ?_⟩
  conv => whnf
  refine LoopOK.weak _ _ ?_ ?_ ?_ (LoopOK.ind (fun i : Nat × Nat => i.2 - i.1) (fun i => [(1, .int .i64 (trip : Int)), (2, .ref (F_ref10_count, 2) 0), (5, .int .i64 (i.1 : Int)), (6, .int .i64 (i.2 : Int))]) (fun _ => [((F_ref10_count, 2), .cells T_api_World (cWld w))]) (fun i => i.1 ≤ i.2 ∧ i.2 ≤ n ∧ srch p 0 n = srch p i.1 i.2) ?_ (0, n) ⟨Nat.zero_le _, Nat.le_refl _, rfl⟩)
  · exact ⟨rfl, rfl, rfl, rfl, trivial⟩
  · exact ⟨rfl, trivial⟩
  · rfl
  rintro ⟨lo, hi⟩ ⟨h1, h2, h3⟩ IH
  simp only at h1 h2 h3 IH
  refine LoopOK.round hTh hMx ?_
  conv => whnf
  refine cond_split (fun h => ?_) (fun hz => ?_)
  · have hlt : lo < hi := by simpa using h
    have hm : ((lo : Int) + hi).tdiv 2 = (((lo + hi) / 2 : Nat) : Int) := by
      rw [Int.tdiv_eq_ediv_of_nonneg (by omega)]
      omega
    conv => whnf
    refine WrapTo.i64 (by omega) ?_
    conv => whnf
    refine OpTo.quo rfl rfl rfl (by decide) (c := (((lo + hi) / 2 : Nat) : Int)) (by rw [hm]; exact IntWalk.i64_in _ (by omega)) ?_
    conv => whnf
    have M := m_ref10_run G w trip (((lo + hi) / 2 : Nat) : Int) (by omega) hl ht hgo
    rw [hpk] at M
    refine CallTo.fn (M) ?_
    conv => whnf
    have e : srch p lo hi = if p ((lo + hi) / 2) then srch p ((lo + hi) / 2 + 1) hi else srch p lo ((lo + hi) / 2) := by
      rw [srch, dif_pos hlt]
    cases hp : p ((lo + hi) / 2)
    · conv => whnf
      refine LoopOK.weak _ _ ?_ ?_ ?_ (IH (lo, (lo + hi) / 2) (by simp only; omega) ⟨by simp only; omega, by simp only; omega, by simp only; rw [h3, e, hp]; rfl⟩)
      · exact ⟨rfl, rfl, rfl, rfl, trivial⟩
      · exact ⟨rfl, trivial⟩
      · rfl
    · conv => whnf
      refine WrapTo.i64 (by omega) ?_
      conv => whnf
      refine LoopOK.weak _ _ ?_ ?_ ?_ (IH ((lo + hi) / 2 + 1, hi) (by simp only; omega) ⟨by simp only; omega, by simp only; omega, by simp only; rw [h3, e, hp]; rfl⟩)
      · exact ⟨rfl, rfl, rfl, rfl, trivial⟩
      · exact ⟨rfl, trivial⟩
      · rfl
  · have hge : ¬ lo < hi := by simpa using hz
    have e : srch p 0 n = lo := by rw [h3, srch, dif_neg hge]
    rw [e]
    conv => whnf
    exact Fin.one hTh rfl (rfl) rfl
theorem m_ref10_is (G : GlP) (w : Wld) (hl : w.trips.length ≤ 65536) (trip : Int) : Meets Pg G F_ref10_is [.agg (cWld w), .int .i64 trip] [] (.bool (isT w trip)) [] := by
  have e1 : (w.trips.map cTrpO).length = w.trips.length := List.length_map _
  refine meets_pure (F := fe_ref10_is) hTh hMx func_ref10_is rfl call_ref10_is rfl rfl rfl ?_
  conv => whnf
  refine cond_split (fun h => ?_) (fun h => ?_)
  · conv => whnf
    exact Fin.one hTh rfl (by simp only [getT, ofValue, isT, e1]; rw [show decide (0 ≤ trip) = true from h]; rfl) rfl
  · conv => whnf
    exact Fin.one hTh rfl (by simp only [getT, ofValue, isT]; rw [show decide (0 ≤ trip) = false from h]; rfl) rfl
theorem m_ref10_Count (G : GlP) (hR : Res G) (w : Wld) (hw : WldSmall w) (trip : Int) : Meets Pg G F_ref10_Count [.agg (cWld w), .int .i64 trip] [] (.int .i64 (countE w trip)) [] := by
  have hf := hw.fits
  refine meets_pure (F := fe_ref10_Count) hTh hMx func_ref10_Count rfl call_ref10_Count rfl rfl rfl ?_
  conv => whnf
  refine CallTo.fn (m_ref09_Check G hR w hw) ?_
  conv => whnf
  refine OpTo.field hTh rfl rfl rfl rfl ?_
  conv => whnf
  refine cond_split (fun h => ?_) (fun h => ?_)
  · have h' : ¬ (checkS w).err = 0 := by simpa using h
    have e : countE w trip = 0 := by simp [countE, h']
    rw [e]
    conv => whnf
    exact Fin.one hTh rfl (rfl) rfl
  have h' : (checkS w).err = 0 := by simpa using h
  conv => whnf
  refine CallTo.fn (m_ref10_is G w hf.trips trip) ?_
  conv => whnf
  cases ht : isT w trip
  · have e : countE w trip = 0 := by simp [countE, ht]
    rw [e]
    conv => whnf
    exact Fin.one hTh rfl (rfl) rfl
  · obtain ⟨t, rfl, htl⟩ := isT_spec ht
    have e : countE w t = countT w t := by simp [countE, ht, h']
    rw [e]
    conv => whnf
    refine CallTo.fn (m_ref10_count G w t hf.trips htl (trp_go h' htl)) ?_
    conv => whnf
    exact Fin.one hTh rfl (rfl) rfl
theorem m_ref10_One (G : GlP) (hR : Res G) (w : Wld) (hw : WldSmall w) (trip no : Int) (hno : no ≤ 9223372036854775807) : Meets Pg G F_ref10_One [.agg (cWld w), .int .i64 trip, .int .i64 no] [] (.tup [.agg (cRun (oneE w trip no).1), .int .i64 (oneE w trip no).2]) [] := by
  have hf := hw.fits
  refine meets_pure (F := fe_ref10_One) hTh hMx func_ref10_One rfl call_ref10_One rfl rfl rfl ?_
  conv => whnf
  refine CallTo.fn (m_ref09_Check G hR w hw) ?_
  conv => whnf
  refine OpTo.field hTh rfl rfl rfl rfl ?_
  conv => whnf
  refine cond_split (fun h => ?_) (fun h => ?_)
  · have h' : ¬ (checkS w).err = 0 := by simpa using h
    have e : oneE w trip no = (rn0, 2) := by simp [oneE, h']
    rw [e]
    conv => whnf
    exact fin_run hTh rfl rn0 (.int .i64 2) 6 7 rfl zRun rfl (fun _ _ => rfl) (fun _ _ => rfl) rfl rfl rfl le_zRun
  have h' : (checkS w).err = 0 := by simpa using h
  conv => whnf
  refine CallTo.fn (m_ref10_is G w hf.trips trip) ?_
  conv => whnf
  cases ht : isT w trip
  · have e : oneE w trip no = (rn0, 5) := by simp [oneE, ht, h']
    rw [e]
    conv => whnf
    exact fin_run hTh rfl rn0 (.int .i64 5) 6 7 rfl zRun rfl (fun _ _ => rfl) (fun _ _ => rfl) rfl rfl rfl le_zRun
  · obtain ⟨t, rfl, htl⟩ := isT_spec ht
    conv => whnf
    refine CallTo.fn (m_ref10_run G w t no hno hf.trips htl (trp_go h' htl)) ?_
    conv => whnf
    cases h1 : (oneS w t no).2
    · have e : oneE w t no = (rn0, 5) := by simp [oneE, h', h1]
      rw [e]
      conv => whnf
      exact fin_run hTh rfl rn0 (.int .i64 5) 6 7 rfl zRun rfl (fun _ _ => rfl) (fun _ _ => rfl) rfl rfl rfl le_zRun
    · have e : oneE w t no = ((oneS w t no).1, 0) := by simp [oneE, ht, h', h1]
      rw [e]
      conv => whnf
      exact fin_run hTh rfl (oneS w t no).1 (.int .i64 0) 6 7 rfl (cRun (oneS w t no).1) rfl (fun _ _ => rfl) (fun _ _ => rfl) rfl rfl rfl (.refl _)
end Go.Proofs.YtmfolelgdpkkoaaGreatDoor
/- Whether a run's times may be; a run looked at, by the document. -/
set_option linter.unusedVariables false
set_option linter.unusedSimpArgs false
set_option maxRecDepth 10000
namespace Go.Proofs.YtmfolelgdpkkoaaGreatDoor
open Go Go.Ab
theorem m_ref10_Times (G : GlP) (r : Rn) (hr : RnFits r) : Meets Pg G F_ref10_Times [.agg (cRun r)] [] (.bool (timesB r)) [] := by
  have f1 := hr.arr
  have f2 := hr.dep
  have e1 : (r.arr.map cI).length = r.arr.length := List.length_map _
  have e2 : (r.dep.map cI).length = r.dep.length := List.length_map _
  refine meets_pure (F := fe_ref10_Times) hTh hMx func_ref10_Times rfl call_ref10_Times rfl rfl rfl ?_
  conv => whnf
  refine cond_split (fun h => ?_) (fun h => ?_)
  · rw [times_no1 (r := r) (by simp at h; omega)]
    conv => whnf
    refine ⟨by kernel_rfl, ?_⟩
    conv => whnf
    exact Fin.one hTh rfl (rfl) rfl
  have h1 : ¬ r.arr.length < 2 := by simp at h; omega
  conv => whnf
  refine cond_split (fun h => ?_) (fun h => ?_)
  · rw [times_no2 (r := r) (by simp at h; omega)]
    conv => whnf
    refine ⟨by kernel_rfl, ?_⟩
    conv => whnf
    exact Fin.one hTh rfl (rfl) rfl
  have h2 : r.dep.length = r.arr.length := by simp at h; omega
  conv => whnf
  refine IndexTo.atD cI 0 (i := 0) (by omega) (by omega) ?_
  conv => whnf
  refine IndexTo.atD cI 0 (i := 0) (by omega) (by omega) ?_
  conv => whnf
  refine cond_split (fun h => ?_) (fun h => ?_)
  · rw [times_no3 (r := r) (by simpa using h)]
    conv => whnf
    refine ⟨by kernel_rfl, ?_⟩
    conv => whnf
    exact Fin.one hTh rfl (rfl) rfl
  have h3 : r.arr.getD 0 0 = r.dep.getD 0 0 := by simpa using h
  conv => whnf
  refine WrapTo.i64 (by omega) ?_
  conv => whnf
  refine IndexTo.atD cI 0 (by omega) (by omega) ?_
  conv => whnf
  refine WrapTo.i64 (by omega) ?_
  conv => whnf
  refine IndexTo.atD cI 0 (by omega) (by omega) ?_
  conv => whnf
  have e3 : (((r.arr.map cI).length : Int) - 1).toNat = r.arr.length - 1 := by omega
  rw [e3]
  refine cond_split (fun h => ?_) (fun h => ?_)
  · rw [times_no4 (r := r) (by simpa using h)]
    conv => whnf
    refine ⟨by kernel_rfl, ?_⟩
    conv => whnf
    exact Fin.one hTh rfl (rfl) rfl
  have h4 : r.arr.getD (r.arr.length - 1) 0 = r.dep.getD (r.arr.length - 1) 0 := by simpa using h
  conv => whnf
  refine IndexTo.atD cI 0 (i := 0) (by omega) (by omega) ?_
  conv => whnf
  refine cond_split (fun h => ?_) (fun h => ?_)
  · rw [times_no5 (r := r) (of_decide_eq_true h)]
    conv => whnf
    refine ⟨by kernel_rfl, ?_⟩
    conv => whnf
    exact Fin.one hTh rfl (rfl) rfl
  have h5 : ¬ r.arr.getD 0 0 < 0 := of_decide_eq_false h
  conv => whnf
  refine WrapTo.i64 (by omega) ?_
  conv => whnf
  refine IndexTo.atD cI 0 (by omega) (by omega) ?_
  conv => whnf
  rw [e3]
  refine ⟨by kernel_rfl, ?_⟩
  conv => whnf
  refine cond_split (fun h => ?_) (fun h => ?_)
  · rw [times_no6 (r := r) (of_decide_eq_true h)]
    conv => whnf
    exact Fin.one hTh rfl (rfl) rfl
  have h6 : ¬ 1099511627776 < r.arr.getD (r.arr.length - 1) 0 := of_decide_eq_false h
  conv => whnf
  refine LoopOK.weak _ _ ?_ ?_ ?_ (LoopOK.ind (fun k : Nat => r.arr.length - 1 - k) (fun k => [(1, .ref (F_ref10_Times, 1) 0), (3, .int .i64 (r.arr.map cI).length), (4, .int .i64 ((k : Int) + 1))]) (fun _ => [((F_ref10_Times, 1), .cells T_api_Run (cRun r))])
    (fun k => k ≤ r.arr.length - 1 ∧ ∀ j, j < k → riseB r j = true) ?_ 0 ⟨by omega, fun j hj => by omega⟩)
  · exact ⟨rfl, rfl, rfl, trivial⟩
  · exact ⟨rfl, trivial⟩
  · rfl
  rintro k ⟨hk, hb⟩ IH
  refine LoopOK.round hTh hMx ?_
  conv => whnf
  refine cond_split (fun h => ?_) (fun hz => ?_)
  · have hlt : k < r.arr.length - 1 := by simp at h; omega
    have e4 : ((k : Int) + 1).toNat = k + 1 := by omega
    have e5 : ((k : Int) + 1 - 1).toNat = k := by omega
    conv => whnf
    refine IndexTo.atD cI 0 (by omega) (by omega) ?_
    conv => whnf
    refine WrapTo.i64 (by omega) ?_
    conv => whnf
    refine IndexTo.atD cI 0 (by omega) (by omega) ?_
    conv => whnf
    rw [e4, e5]
    refine cond_split (fun h8 => ?_) (fun h8 => ?_)
    · have hn : riseB r k = false := by
        unfold riseB
        rw [decide_eq_false (by have := of_decide_eq_true h8; omega)]
        rfl
      rw [times_no7 hlt hn]
      conv => whnf
      refine ⟨by kernel_rfl, ?_⟩
      conv => whnf
      exact Fin.one hTh rfl (rfl) rfl
    have h8' := of_decide_eq_false h8
    conv => whnf
    refine IndexTo.atD cI 0 (by omega) (by omega) ?_
    conv => whnf
    refine IndexTo.atD cI 0 (by omega) (by omega) ?_
    conv => whnf
    rw [e4]
    refine ⟨by kernel_rfl, ?_⟩
    conv => whnf
    refine cond_split (fun h9 => ?_) (fun h9 => ?_)
    · have hn : riseB r k = false := by
        unfold riseB
        rw [decide_eq_false (p := r.arr.getD (k + 1) 0 ≤ r.dep.getD (k + 1) 0) (by have := of_decide_eq_true h9; omega), Bool.and_false]
      rw [times_no7 hlt hn]
      conv => whnf
      exact Fin.one hTh rfl (rfl) rfl
    have h9' := of_decide_eq_false h9
    have hy : riseB r k = true := by
      unfold riseB
      rw [decide_eq_true (by omega), decide_eq_true (by omega)]
      rfl
    conv => whnf
    refine WrapTo.i64 (by omega) ?_
    conv => whnf
    refine LoopOK.weak _ _ ?_ ?_ ?_ (IH (k + 1) (by omega) ⟨by omega, fun j hj => by
      rcases Nat.lt_succ_iff_lt_or_eq.1 hj with h | rfl
      · exact hb j h
      · exact hy⟩)
    · exact ⟨rfl, rfl, rfl, trivial⟩
    · exact ⟨rfl, trivial⟩
    · rfl
  · have hge : r.arr.length - 1 ≤ k := by simp at hz; omega
    rw [times_yes h1 h2 h3 h4 h5 h6 fun j hj => hb j (by omega)]
    conv => whnf
    exact Fin.one hTh rfl (rfl) rfl
theorem m_ref10_Check (G : GlP) (hR : Res G) (w : Wld) (hw : WldSmall w) (r : Rn) (hr : RnFits r) (hno : r.no ≤ 9223372036854775807) : Meets Pg G F_ref10_Check [.agg (cWld w), .agg (cRun r)] [] (.int .i64 (checkR w r)) [] := by
  have f1 := hr.arr
  have hf := hw.fits
  have e1 : (r.arr.map cI).length = r.arr.length := List.length_map _
  refine meets_pure (F := fe_ref10_Check) hTh hMx func_ref10_Check rfl call_ref10_Check rfl rfl rfl ?_
  conv => whnf
  refine CallTo.fn (m_ref09_Check G hR w hw) ?_
  conv => whnf
  refine OpTo.field hTh rfl rfl rfl rfl ?_
  conv => whnf
  refine cond_split (fun h => ?_) (fun h => ?_)
  · have h' : ¬ (checkS w).err = 0 := by simpa using h
    have e : checkR w r = 2 := by simp [checkR, oneE, h']
    rw [e]
    conv => whnf
    exact Fin.one hTh rfl (rfl) rfl
  have g1 : (checkS w).err = 0 := by simpa using h
  have hg := good_of g1
  conv => whnf
  refine CallTo.fn (m_ref10_is G w hf.trips r.trip) ?_
  conv => whnf
  cases g2 : isT w r.trip
  · have e : checkR w r = 5 := by simp [checkR, oneE, g1, g2]
    rw [e]
    conv => whnf
    exact Fin.one hTh rfl (rfl) rfl
  obtain ⟨t, ht, htl⟩ := isT_spec g2
  have hgo := trp_go g1 htl
  have et : r.trip.toNat = t := by omega
  conv => whnf
  rw [ht]
  refine CallTo.fn (m_ref10_run G w t r.no hno hf.trips htl hgo) ?_
  conv => whnf
  cases h1 : (oneS w t r.no).2
  · have e : checkR w r = 5 := by simp [checkR, oneE, g1, g2, et, h1]
    rw [e]
    conv => whnf
    exact Fin.one hTh rfl (rfl) rfl
  have h' : (oneE w r.trip r.no).2 = 0 := by simp [oneE, g1, g2, et, h1]
  have e0 : checkR w r = if !timesB r || !(r.arr.length == (rteW w t).stops.length) then 2 else if w.hor < endR r then 9 else 0 := by
    unfold checkR
    rw [if_neg (by simpa using h'), et]
  conv => whnf
  refine CallTo.fn (m_ref10_Times G r hr) ?_
  conv => whnf
  cases htm : timesB r
  · have e : checkR w r = 2 := by rw [e0, htm]; rfl
    rw [e]
    conv => whnf
    refine ⟨by kernel_rfl, ?_⟩
    conv => whnf
    exact Fin.one hTh rfl (rfl) rfl
  have tl := (times_spec htm).1
  conv => whnf
  rw [ht]
  refine IndexTo.at (map_atD cTrpO ⟨0, 0, 0, 0⟩ htl) ?_
  conv => whnf
  refine IndexTo.atD cRteO ⟨[], [], []⟩ hgo.r0 hgo.r1 ?_
  conv => whnf
  refine ⟨by kernel_rfl, ?_⟩
  conv => whnf
  refine cond_split (fun h1 => ?_) (fun h1 => ?_)
  · have h1' : ¬ r.arr.length = (rteW w t).stops.length := by
      intro he
      rw [bne_iff_ne] at h1
      apply h1
      rw [e1, he]
      simp [rteW, trpW]
    have e : checkR w r = 2 := by rw [e0, htm, if_pos (by simpa using h1')]
    rw [e]
    conv => whnf
    exact Fin.one hTh rfl (rfl) rfl
  have h1' : r.arr.length = (rteW w t).stops.length := by
    rw [bne_eq_false_iff_eq, e1] at h1
    simp [rteW, trpW] at h1 ⊢
    omega
  conv => whnf
  refine WrapTo.i64 (by omega) ?_
  conv => whnf
  refine IndexTo.atD cI 0 (by omega) (by omega) ?_
  conv => whnf
  have e3 : (((r.arr.map cI).length : Int) - 1).toNat = r.arr.length - 1 := by omega
  rw [e3]
  refine ⟨by kernel_rfl, ?_⟩
  conv => whnf
  refine cond_split (fun h2 => ?_) (fun h2 => ?_)
  · have e : checkR w r = 9 := by rw [e0, htm, if_neg (by simpa using h1'), if_pos (show w.hor < endR r from of_decide_eq_true h2)]
    rw [e]
    conv => whnf
    exact Fin.one hTh rfl (rfl) rfl
  · have e : checkR w r = 0 := by rw [e0, htm, if_neg (by simpa using h1'), if_neg (show ¬ w.hor < endR r from of_decide_eq_false h2)]
    rw [e]
    conv => whnf
    exact Fin.one hTh rfl (rfl) rfl
end Go.Proofs.YtmfolelgdpkkoaaGreatDoor
/- A run made later; all runs, by the document. -/
set_option linter.unusedVariables false
set_option linter.unusedSimpArgs false
set_option maxRecDepth 10000
namespace Go.Proofs.YtmfolelgdpkkoaaGreatDoor
open Go Go.Ab
def raR : Lbl := (F_ref10_All, 55)
def raB (w : Wld) (rs : List Rn) : BL := [((F_ref10_All, 1), .cells T_api_World (cWld w)), (raR, .row T_api_Run 4 (rs.map cRun))]
def raT (m : Nat) (t : Int) : TL := [(1, .ref (F_ref10_All, 1) 0), (6, .own raR m), (7, .int .i64 t)]
def raT2 (m : Nat) (t c k : Int) : TL := [(1, .ref (F_ref10_All, 1) 0), (6, .own raR m), (7, .int .i64 t), (8, .int .i64 c), (9, .int .i64 k)]
theorem raClo (w : Wld) (rs : List Rn) : AllL (keyB (raB w rs)) (raB w rs) := ⟨rfl, cloX_row (l := jLr) (e := 0) (sz := 4) (Clo.map (fun _ => rfl) _), trivial⟩
theorem m_ref10_All (G : GlP) (hR : Res G) (w : Wld) (hw : WldSmall w) : Meets Pg G F_ref10_All [.agg (cWld w)] [] (.tup [.lst 4 ((allE w).1.map cRun), .int .i64 (allE w).2]) [] := by
  have hl := hw.fits.trips
  have e1 : (w.trips.map cTrpO).length = w.trips.length := List.length_map _
  refine meets_pure (F := fe_ref10_All) hTh hMx func_ref10_All rfl call_ref10_All rfl rfl rfl ?_
  conv => whnf
  refine CallTo.fn (m_ref09_Check G hR w hw) ?_
  conv => whnf
  refine OpTo.field hTh rfl rfl rfl rfl ?_
  conv => whnf
  refine cond_split (fun h => ?_) (fun h => ?_)
  · have h' : (checkS w).err ≠ 0 := by simpa using h
    have e : allE w = ([], 2) := by unfold allE; rw [if_pos h']
    rw [e]
    conv => whnf
    refine Fin.less [] [(2, .lst 4 []), (3, .int .i64 2)] [] ⟨.emp 4, .refl _, trivial⟩ trivial trivial rfl ?_
    exact Fin.pure hTh [.lst 4 [], .int .i64 2] rfl rfl rfl
  have h' : (checkS w).err = 0 := by simpa using h
  conv => whnf
  refine LoopOK.weak _ _ ?_ ?_ ?_ (LoopOK.ind (fun i : Nat => w.trips.length - i) (fun i => [(1, .ref (F_ref10_All, 1) 0), (4, .int .i64 (sumC w i : Nat)), (5, .int .i64 (i : Int))]) (fun _ => [((F_ref10_All, 1), .cells T_api_World (cWld w))]) (fun i => i ≤ w.trips.length ∧ sumC w i ≤ 16384) ?_ 0 ⟨by omega, by simp [sumC]⟩)
  · exact ⟨rfl, rfl, rfl, trivial⟩
  · exact ⟨rfl, trivial⟩
  · rfl
  rintro i ⟨hi, hs⟩ IH
  refine LoopOK.round hTh hMx ?_
  conv => whnf
  refine cond_split (fun h1 => ?_) (fun hz => ?_)
  · have hlt : i < w.trips.length := by simpa using h1
    have hbd := countT_bd w i
    have e2 : sumC w (i + 1) = sumC w i + countT w i := rfl
    conv => whnf
    refine CallTo.fn (m_ref10_count G w i hl hlt (trp_go h' hlt)) ?_
    conv => whnf
    refine WrapTo.i64 (by omega) ?_
    conv => whnf
    refine cond_split (fun h2 => ?_) (fun h2 => ?_)
    · have h2' := of_decide_eq_true h2
      have m := sumC_mono w (show i + 1 ≤ w.trips.length by omega)
      have e : allE w = ([], 3) := by unfold allE; rw [if_neg (by simpa using h'), if_pos (by omega)]
      rw [e]
      conv => whnf
      refine Fin.less [] [(2, .lst 4 []), (3, .int .i64 3)] [] ⟨.emp 4, .refl _, trivial⟩ trivial trivial rfl ?_
      exact Fin.pure hTh [.lst 4 [], .int .i64 3] rfl rfl rfl
    have h2' := of_decide_eq_false h2
    conv => whnf
    refine WrapTo.i64 (by omega) ?_
    conv => whnf
    refine LoopOK.weak _ _ ?_ ?_ ?_ (IH (i + 1) (by omega) ⟨by omega, by omega⟩)
    · exact ⟨rfl, rfl, rfl, trivial⟩
    · exact ⟨rfl, trivial⟩
    · rfl
  have hge : w.trips.length ≤ i := by simpa using hz
  obtain rfl : i = w.trips.length := by omega
  have e : allE w = (runsN w w.trips.length, 0) := by unfold allE; rw [if_neg (by simpa using h'), if_neg (by omega)]
  rw [e]
  conv => whnf
  refine LoopOK.conv (Conv.empOwn 6 rfl raR rfl T_api_Run 4) ?_
  refine LoopOK.weak _ _ ?_ ?_ ?_ (LoopOK.ind (fun i : Nat => w.trips.length - i) (fun i => raT (runsN w i).length i) (fun i => raB w (runsN w i)) (fun i => i ≤ w.trips.length) ?_ 0 (by omega))
  · exact ⟨rfl, rfl, rfl, trivial⟩
  · exact ⟨rfl, rfl, trivial⟩
  · exact chk_mk ⟨rfl, rfl, rfl, trivial⟩ (raClo _ _) rfl
  intro i hi2 IH
  refine LoopOK.round hTh hMx ?_
  conv => whnf
  refine cond_split (fun h1 => ?_) (fun hz => ?_)
  · have hlt : i < w.trips.length := by simpa using h1
    have e2 : sumC w (i + 1) = sumC w i + countT w i := rfl
    have m := sumC_mono w (show i + 1 ≤ w.trips.length by omega)
    have hrl := runsN_len w i
    have hT : (runsT w i).length = countT w i := by simp [runsT]
    conv => whnf
    refine CallTo.fn (m_ref10_count G w i hl hlt (trp_go h' hlt)) ?_
    conv => whnf
    refine LoopOK.weak _ _ ?_ ?_ ?_ (LoopOK.ind (fun k : Nat => countT w i - k) (fun k => raT2 (runsN w i ++ (runsT w i).take k).length i (countT w i : Nat) k) (fun k => raB w (runsN w i ++ (runsT w i).take k)) (fun k => k ≤ countT w i) ?_ 0 (by omega))
    · exact ⟨rfl, own_len (by simp), rfl, rfl, rfl, trivial⟩
    · exact ⟨rfl, congrArg (fun z : List Rn => some (ABox.row T_api_Run 4 (z.map cRun))) (by simp), trivial⟩
    · exact chk_mk ⟨rfl, rfl, rfl, rfl, rfl, trivial⟩ (raClo _ _) rfl
    intro k hk IH2
    have hlr : (runsN w i ++ (runsT w i).take k).length = (runsN w i).length + k := by rw [List.length_append, List.length_take, hT]; omega
    have hlw : ((runsN w i ++ (runsT w i).take k).map cRun).length = (runsN w i ++ (runsT w i).take k).length := List.length_map _
    refine LoopOK.round hTh hMx ?_
    conv => whnf
    refine cond_split (fun h3 => ?_) (fun hz => ?_)
    · have hlt3 : k < countT w i := by simpa using h3
      have hbd := countT_bd w i
      conv => whnf
      refine CallTo.fn (m_ref10_run G w i (k : Int) (by omega) hl hlt (trp_go h' hlt)) ?_
      conv => whnf
      refine ⟨hlw, by simp only [List.length_cons, List.length_nil]; omega, ?_⟩
      conv => whnf
      refine WrapTo.i64 (by omega) ?_
      conv => whnf
      refine LoopOK.weak _ _ ?_ ?_ ?_ (IH2 (k + 1) (by omega) (by omega))
      · rw [take_runs hlt3]; exact ⟨rfl, own_len (by rw [List.length_append (bs := [_])]; rfl), rfl, rfl, rfl, trivial⟩
      · rw [take_runs hlt3]
        exact ⟨rfl, congrArg (fun z => some (ABox.row T_api_Run 4 z)) (by rw [List.map_append (l₂ := [_])]; rfl), trivial⟩
      · exact chk_mk ⟨rfl, rfl, rfl, rfl, rfl, trivial⟩ (raClo _ _) rfl
    · have hge3 : countT w i ≤ k := by simpa using hz
      have e4 : runsN w i ++ (runsT w i).take k = runsN w (i + 1) := by rw [List.take_of_length_le (by omega)]; rfl
      rw [e4]
      conv => whnf
      refine WrapTo.i64 (by omega) ?_
      conv => whnf
      refine LoopOK.weak _ _ ?_ ?_ ?_ (IH (i + 1) (by omega) (by omega))
      · exact ⟨rfl, rfl, rfl, trivial⟩
      · exact ⟨rfl, rfl, trivial⟩
      · exact chk_mk ⟨rfl, rfl, rfl, trivial⟩ (raClo _ _) rfl
  have hge2 : w.trips.length ≤ i := by simpa using hz
  obtain rfl : i = w.trips.length := by omega
  conv => whnf
  refine Fin.less [(raR, .row T_api_Run 4 ((runsN w w.trips.length).map cRun))] [(2, .lst 4 ((runsN w w.trips.length).map cRun)), (3, .int .i64 0)] [] ⟨.own List.mem_cons_self (by rw [List.length_map]), .refl _, trivial⟩ trivial ⟨rfl, Clo.map (fun _ => rfl) _, rfl, trivial⟩ rfl ?_
  exact Fin.pure hTh [.lst 4 ((runsN w w.trips.length).map cRun), .int .i64 0] rfl rfl rfl
end Go.Proofs.YtmfolelgdpkkoaaGreatDoor
/- A run made later, by the document. -/
set_option linter.unusedVariables false
set_option linter.unusedSimpArgs false
set_option maxRecDepth 10000
namespace Go.Proofs.YtmfolelgdpkkoaaGreatDoor
open Go Go.Ab
theorem m_ref10_Later (G : GlP) (r : Rn) (hr : RnFits r) (from_ by_ : Int) (hby : by_ ≤ 9223372036854775807) : Meets Pg G F_ref10_Later [.agg (cRun r), .int .i64 from_, .int .i64 by_] [] (.tup [.agg (cRun (laterS r from_ by_).1), .int .i64 (laterS r from_ by_).2]) [] := by
  have f1 := hr.arr
  have f2 := hr.dep
  have e1 : (r.arr.map cI).length = r.arr.length := List.length_map _
  have e2 : (r.dep.map cI).length = r.dep.length := List.length_map _
  have bad : (!timesB r || decide (from_ < 0) || decide ((r.arr.length : Int) - 1 ≤ from_) || decide (by_ < 0)) = true → laterS r from_ by_ = (rn0, 2) := fun h => by unfold laterS; rw [if_pos h]
  refine meets_pure (F := fe_ref10_Later) hTh hMx func_ref10_Later rfl call_ref10_Later rfl rfl rfl ?_
  conv => whnf
  refine CallTo.fn (m_ref10_Times G r hr) ?_
  conv => whnf
  cases ht : timesB r
  · rw [bad (by rw [ht]; rfl)]
    conv => whnf
    exact fin_run hTh rfl rn0 (.int .i64 2) 6 7 rfl zRun rfl (fun _ _ => rfl) (fun _ _ => rfl) rfl rfl rfl le_zRun
  obtain ⟨t1, t2, t3, t4, t5, t6, t7⟩ := times_spec ht
  conv => whnf
  refine cond_split (fun h => ?_) (fun h => ?_)
  · rw [bad (by rw [show decide (from_ < 0) = true from h]; simp)]
    conv => whnf
    exact fin_run hTh rfl rn0 (.int .i64 2) 6 7 rfl zRun rfl (fun _ _ => rfl) (fun _ _ => rfl) rfl rfl rfl le_zRun
  have c1 : ¬ from_ < 0 := of_decide_eq_false h
  conv => whnf
  refine WrapTo.i64 (by omega) ?_
  conv => whnf
  refine cond_split (fun h => ?_) (fun h => ?_)
  · rw [bad (by rw [show decide ((r.arr.length : Int) - 1 ≤ from_) = true from decide_eq_true (by simp at h; omega)]; simp)]
    conv => whnf
    exact fin_run hTh rfl rn0 (.int .i64 2) 6 7 rfl zRun rfl (fun _ _ => rfl) (fun _ _ => rfl) rfl rfl rfl le_zRun
  have c2 : ¬ (r.arr.length : Int) - 1 ≤ from_ := by simp at h; omega
  conv => whnf
  refine cond_split (fun h => ?_) (fun h => ?_)
  · rw [bad (by rw [show decide (by_ < 0) = true from h]; simp)]
    conv => whnf
    exact fin_run hTh rfl rn0 (.int .i64 2) 6 7 rfl zRun rfl (fun _ _ => rfl) (fun _ _ => rfl) rfl rfl rfl le_zRun
  have c3 : ¬ by_ < 0 := of_decide_eq_false h
  have e0 : laterS r from_ by_ = if 1099511627776 - endR r < by_ then (rn0, 9) else (⟨r.trip, r.no, (List.range r.arr.length).map (lateA r from_.toNat by_), (List.range r.dep.length).map (lateD r from_.toNat by_)⟩, 0) := by
    unfold laterS
    rw [if_neg (by simp [ht]; omega)]
  have hend := times_bd ht (r.arr.length - 1) (by omega)
  conv => whnf
  refine WrapTo.i64 (by omega) ?_
  conv => whnf
  refine IndexTo.atD cI 0 (by omega) (by omega) ?_
  conv => whnf
  have e3 : (((r.arr.map cI).length : Int) - 1).toNat = r.arr.length - 1 := by omega
  rw [e3]
  refine WrapTo.i64 (by omega) ?_
  conv => whnf
  refine cond_split (fun h => ?_) (fun h => ?_)
  · rw [e0, if_pos (show 1099511627776 - endR r < by_ from of_decide_eq_true h)]
    conv => whnf
    exact fin_run hTh rfl rn0 (.int .i64 9) 6 7 rfl zRun rfl (fun _ _ => rfl) (fun _ _ => rfl) rfl rfl rfl le_zRun
  have c4 : ¬ 1099511627776 - endR r < by_ := of_decide_eq_false h
  have c5 : by_ ≤ 1099511627776 := by simp only [endR] at c4; omega
  obtain ⟨f, rfl⟩ : ∃ f : Nat, from_ = f := ⟨from_.toNat, by omega⟩
  rw [e0, if_neg (show ¬ 1099511627776 - endR r < by_ from c4), Int.toNat_natCast]
  conv => whnf
  refine ⟨by simp only [List.length_map]; omega, ?_⟩
  conv => whnf
  refine ⟨by simp only [List.length_map]; omega, ?_⟩
  conv => whnf
  refine ⟨by kernel_rfl, ?_⟩
  conv => whnf
  refine LoopOK.weak _ _ ?_ ?_ ?_ (LoopOK.ind (fun k : Nat => r.dep.length - k) (fun k => [(1, .int .i64 (f : Int)), (2, .int .i64 by_), (3, .ref (F_ref10_Later, 3) 0), (6, .ref (F_ref10_Later, 6) 0), (8, .int .i64 (r.arr.map cI).length), (9, .ref (F_ref10_Later, 9) 0), (10, .int .i64 (k : Int))])
    (fun k => [((F_ref10_Later, 3), .cells T_api_Run (cRun r)), ((F_ref10_Later, 6), .cells T_api_Run (zcells ty_api_Run)), ((F_ref10_Later, 9), .cells T_api_Run [.int .i64 r.trip, .int .i64 r.no, .own (F_ref10_Later, 49) r.arr.length, .own (F_ref10_Later, 53) r.dep.length]), ((F_ref10_Later, 49), .row T_i64 1 ((upTo (lateA r f by_) r.arr k).map cI)), ((F_ref10_Later, 53), .row T_i64 1 ((upTo (lateD r f by_) r.dep k).map cI))]) (fun k => f ≤ k ∧ k ≤ r.dep.length) ?_ f ⟨by omega, by omega⟩)
  · exact ⟨rfl, rfl, rfl, rfl, rfl, rfl, rfl, trivial⟩
  · have sa : r.arr = upTo (lateA r f by_) r.arr f := (upTo_start _ fun j hj => by unfold lateA; rw [if_neg (by omega)]).symm
    have sd : r.dep = upTo (lateD r f by_) r.dep f := (upTo_start _ fun j hj => by unfold lateD; rw [if_neg (by omega)]).symm
    exact ⟨rfl, rfl, congr2 (fun x y => some (ABox.cells T_api_Run [.int .i64 r.trip, .int .i64 r.no, .own (F_ref10_Later, 49) x, .own (F_ref10_Later, 53) y])) e1 e2, congrArg (fun z : List Int => some (ABox.row T_i64 1 (z.map cI))) sa, congrArg (fun z : List Int => some (ABox.row T_i64 1 (z.map cI))) sd, trivial⟩
  · exact chk_mk ⟨rfl, rfl, rfl, rfl, rfl, rfl, rfl, trivial⟩ ⟨rfl, rfl, rfl, cloX_row (l := (0, 0)) (e := 0) (sz := 0) (Clo.map fI _), cloX_row (l := (0, 0)) (e := 0) (sz := 0) (Clo.map fI _), trivial⟩ rfl
  rintro k ⟨hk1, hk2⟩ IH
  have la : ((upTo (lateA r f by_) r.arr k).map cI).length = r.arr.length := by rw [List.length_map, upTo_len]
  have ld : ((upTo (lateD r f by_) r.dep k).map cI).length = r.dep.length := by rw [List.length_map, upTo_len]
  refine LoopOK.round hTh hMx ?_
  conv => whnf
  refine cond_split (fun h => ?_) (fun hz => ?_)
  · have hlt : k < r.dep.length := by simp at h; omega
    have hlt2 : k < r.arr.length := by omega
    have hbd := times_bd ht k hlt2
    have vd : lateD r f by_ k = r.dep.getD k 0 + by_ := by unfold lateD; rw [if_pos hk1]
    have atd : ((upTo (lateD r f by_) r.dep k).map cI)[k]? = some (cI (r.dep.getD k 0)) := by rw [List.getElem?_map, upTo_at _ hlt]; rfl
    have ata : ((upTo (lateA r f by_) r.arr k).map cI)[k]? = some (cI (r.arr.getD k 0)) := by rw [List.getElem?_map, upTo_at _ hlt2]; rfl
    have setd : ((upTo (lateD r f by_) r.dep k).map cI).set k (cI (r.dep.getD k 0 + by_)) = (upTo (lateD r f by_) r.dep (k + 1)).map cI := by rw [← List.map_set, ← vd, upTo_set _ hlt]
    conv => whnf
    refine OpTo.rowAt hTh rfl rfl rfl rfl rfl rfl rfl ld rfl (by omega) (by omega) ?_
    conv => whnf
    refine OpTo.rowLoad hTh k 0 rfl rfl rfl rfl ld (one_lenI _) atd (by omega) (by decide) (by decide) rfl ?_
    conv => whnf
    refine WrapTo.i64 (by omega) ?_
    conv => whnf
    refine OpTo.rowAt hTh rfl rfl rfl rfl rfl rfl rfl ld rfl (by omega) (by omega) ?_
    conv => whnf
    refine OpTo.rowStore hTh k 0 ((upTo (lateD r f by_) r.dep (k + 1)).map cI) rfl rfl rfl rfl ld rfl rfl (one_lenI _) atd (by omega) (by decide) (by rw [← setd]; rfl) ?_
    conv => whnf
    refine ⟨by kernel_rfl, ?_⟩
    conv => whnf
    have seta : lateA r f by_ k = r.arr.getD k 0 + by_ → ((upTo (lateA r f by_) r.arr k).map cI).set k (cI (r.arr.getD k 0 + by_)) = (upTo (lateA r f by_) r.arr (k + 1)).map cI := fun va => by rw [← List.map_set, ← va, upTo_set _ hlt2]
    refine cond_split (fun h8 => ?_) (fun h8 => ?_)
    · have va : lateA r f by_ k = r.arr.getD k 0 + by_ := by unfold lateA; rw [if_pos (.inl (by have := of_decide_eq_true h8; omega))]
      conv => whnf
      refine OpTo.rowAt hTh rfl rfl rfl rfl rfl rfl rfl la rfl (by omega) (by omega) ?_
      conv => whnf
      refine OpTo.rowLoad hTh k 0 rfl rfl rfl rfl la (one_lenI _) ata (by omega) (by decide) (by decide) rfl ?_
      conv => whnf
      refine WrapTo.i64 (by omega) ?_
      conv => whnf
      refine OpTo.rowAt hTh rfl rfl rfl rfl rfl rfl rfl la rfl (by omega) (by omega) ?_
      conv => whnf
      refine OpTo.rowStore hTh k 0 ((upTo (lateA r f by_) r.arr (k + 1)).map cI) rfl rfl rfl rfl la rfl rfl (one_lenI _) ata (by omega) (by decide) (by rw [← seta va]; rfl) ?_
      conv => whnf
      refine ⟨by kernel_rfl, ?_⟩
      conv => whnf
      refine WrapTo.i64 (by omega) ?_
      conv => whnf
      refine LoopOK.weak _ _ ?_ ?_ ?_ (IH (k + 1) (by omega) ⟨by omega, by omega⟩)
      · exact ⟨rfl, rfl, rfl, rfl, rfl, rfl, rfl, trivial⟩
      · exact ⟨rfl, rfl, rfl, rfl, rfl, trivial⟩
      · exact chk_mk ⟨rfl, rfl, rfl, rfl, rfl, rfl, rfl, trivial⟩ ⟨rfl, rfl, rfl, cloX_row (l := (0, 0)) (e := 0) (sz := 0) (Clo.map fI _), cloX_row (l := (0, 0)) (e := 0) (sz := 0) (Clo.map fI _), trivial⟩ rfl
    have h8' : ¬ f < k := by have := of_decide_eq_false h8; omega
    conv => whnf
    refine cond_split (fun h9 => ?_) (fun h9 => ?_)
    · have h9' : k = 0 := by simpa using h9
      have va : lateA r f by_ k = r.arr.getD k 0 + by_ := by unfold lateA; rw [if_pos (.inr (by omega))]
      conv => whnf
      refine OpTo.rowAt hTh rfl rfl rfl rfl rfl rfl rfl la rfl (by omega) (by omega) ?_
      conv => whnf
      refine OpTo.rowLoad hTh k 0 rfl rfl rfl rfl la (one_lenI _) ata (by omega) (by decide) (by decide) rfl ?_
      conv => whnf
      refine WrapTo.i64 (by omega) ?_
      conv => whnf
      refine OpTo.rowAt hTh rfl rfl rfl rfl rfl rfl rfl la rfl (by omega) (by omega) ?_
      conv => whnf
      refine OpTo.rowStore hTh k 0 ((upTo (lateA r f by_) r.arr (k + 1)).map cI) rfl rfl rfl rfl la rfl rfl (one_lenI _) ata (by omega) (by decide) (by rw [← seta va]; rfl) ?_
      conv => whnf
      refine ⟨by kernel_rfl, ?_⟩
      conv => whnf
      refine WrapTo.i64 (by omega) ?_
      conv => whnf
      refine LoopOK.weak _ _ ?_ ?_ ?_ (IH (k + 1) (by omega) ⟨by omega, by omega⟩)
      · exact ⟨rfl, rfl, rfl, rfl, rfl, rfl, rfl, trivial⟩
      · exact ⟨rfl, rfl, rfl, rfl, rfl, trivial⟩
      · exact chk_mk ⟨rfl, rfl, rfl, rfl, rfl, rfl, rfl, trivial⟩ ⟨rfl, rfl, rfl, cloX_row (l := (0, 0)) (e := 0) (sz := 0) (Clo.map fI _), cloX_row (l := (0, 0)) (e := 0) (sz := 0) (Clo.map fI _), trivial⟩ rfl
    · have h9' : ¬ k = 0 := by simpa using h9
      have va : lateA r f by_ k = r.arr.getD k 0 := by unfold lateA; rw [if_neg (by omega)]
      conv => whnf
      refine WrapTo.i64 (by omega) ?_
      conv => whnf
      refine LoopOK.weak _ _ ?_ ?_ ?_ (IH (k + 1) (by omega) ⟨by omega, by omega⟩)
      · exact ⟨rfl, rfl, rfl, rfl, rfl, rfl, rfl, trivial⟩
      · exact ⟨rfl, rfl, rfl, congrArg (fun z : List Int => some (ABox.row T_i64 1 (z.map cI))) (upTo_same _ va).symm, rfl, trivial⟩
      · exact chk_mk ⟨rfl, rfl, rfl, rfl, rfl, rfl, rfl, trivial⟩ ⟨rfl, rfl, rfl, cloX_row (l := (0, 0)) (e := 0) (sz := 0) (Clo.map fI _), cloX_row (l := (0, 0)) (e := 0) (sz := 0) (Clo.map fI _), trivial⟩ rfl
  · have hge : r.dep.length ≤ k := by simp at hz; omega
    have ea := upTo_all (lateA r f by_) (l := r.arr) (k := k) (by omega)
    have ed := upTo_all (lateD r f by_) (l := r.dep) (k := k) hge
    rw [ea] at la ⊢
    rw [ed] at ld ⊢
    conv => whnf
    refine Fin.less [((F_ref10_Later, 49), .row T_i64 1 (((List.range r.arr.length).map (lateA r f by_)).map cI)), ((F_ref10_Later, 53), .row T_i64 1 (((List.range r.dep.length).map (lateD r f by_)).map cI))] [(6, .ref (F_ref10_Later, 6) 0), (7, .int .i64 0)]
      [((F_ref10_Later, 6), .cells T_api_Run (cRun ⟨r.trip, r.no, (List.range r.arr.length).map (lateA r f by_), (List.range r.dep.length).map (lateD r f by_)⟩))] ⟨.refl _, .refl _, trivial⟩
      ⟨⟨_, rfl, .cells (.cons (.refl _) (.cons (.refl _) (.cons (.own List.mem_cons_self la) (.cons (.own (List.mem_cons_of_mem _ List.mem_cons_self) ld) (.refl _)))))⟩, trivial⟩ ⟨rfl, Clo.map fI _, rfl, rfl, Clo.map fI _, rfl, trivial⟩ rfl ?_
    exact Fin.pure hTh [.agg (cRun ⟨r.trip, r.no, (List.range r.arr.length).map (lateA r f by_), (List.range r.dep.length).map (lateD r f by_)⟩), .int .i64 0] rfl rfl rfl
end Go.Proofs.YtmfolelgdpkkoaaGreatDoor
