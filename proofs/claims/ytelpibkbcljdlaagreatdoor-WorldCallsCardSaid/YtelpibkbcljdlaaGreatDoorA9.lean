/- Windows of times, by the program and by the document. -/
import Derived.Test.YtelpibkbcljdlaaGreatDoorA8
set_option linter.unusedVariables false
set_option linter.unusedSimpArgs false
set_option maxRecDepth 10000
namespace Go.Ab
def countS (fr ev un : Int) : Int := if tickOK fr && tickOK ev && tickOK un && decide (fr ≤ un) then (if ev = 0 then 1 else (un - fr).tdiv ev + 1) else 0
theorem countS_bd (fr ev un : Int) : 0 ≤ countS fr ev un ∧ countS fr ev un ≤ 1099511627777 := by
  unfold countS
  split
  · rename_i h
    simp [tickOK] at h
    split
    · omega
    · have h1 : (un - fr).tdiv ev ≤ un - fr := by
        rw [Int.tdiv_eq_ediv_of_nonneg (by omega)]
        exact Int.ediv_le_self _ (by omega)
      have h2 : 0 ≤ (un - fr).tdiv ev := Int.tdiv_nonneg (by omega) (by omega)
      omega
  · omega
def winsErr (t : Tms) (h : Int) : Int := if !tmsOK t then 2 else if !tickOK h then 9 else if 256 < countS t.fr t.ev h then 3 else 0
def winsS (t : Tms) (h : Int) : List Wn := if winsErr t h = 0 then joinN (winA t) (countS t.fr t.ev h).toNat else []
theorem joinN_congr {w v : Nat → Wn} : ∀ (n : Nat), (∀ i, i < n → w i = v i) → joinN w n = joinN v n
  | 0, _ => rfl
  | n + 1, h => by simp only [joinN, joinN_congr n fun i hi => h i (by omega), h n (by omega)]
theorem joinStep_set {xs : List Wn} {w : Wn} (hn : 0 < xs.length) (h : w.fr ≤ (xs.getD (xs.length - 1) ⟨0, 0⟩).to) :
    joinStep xs w = xs.set (xs.length - 1) ⟨(xs.getD (xs.length - 1) ⟨0, 0⟩).fr, max (xs.getD (xs.length - 1) ⟨0, 0⟩).to w.to⟩ := by
  unfold joinStep
  rw [if_pos ⟨hn, h⟩]
theorem joinStep_add {xs : List Wn} {w : Wn} (h : ¬ (0 < xs.length ∧ w.fr ≤ (xs.getD (xs.length - 1) ⟨0, 0⟩).to)) : joinStep xs w = xs ++ [w] := by
  unfold joinStep
  rw [if_neg h]
theorem wn_two (xs : List Wn) : ∀ x ∈ xs.map cWn, x.length = 2 := fun x hx => by
  obtain ⟨y, _, rfl⟩ := List.mem_map.1 hx
  rfl
end Go.Ab
namespace Go.Proofs.YtelpibkbcljdlaaGreatDoor
open Go Go.Ab
theorem m_tick_Count (G : GlP) (a b c : Int) : Meets Pg G F_tick_Count [.int .i64 a, .int .i64 b, .int .i64 c] [] (.int .i64 (countS a b c)) [] := by
  refine meets_pure (F := fe_tick_Count) hTh hMx func_tick_Count rfl call_tick_Count rfl rfl rfl ?_
  conv => whnf
  refine CallTo.fn (m_tick_Check G _) ?_
  conv => whnf
  cases ha : tickOK a
  · conv => whnf
    exact Fin.one hTh rfl (by simp [getT, ofValue, countS, ha]) rfl
  conv => whnf
  refine CallTo.fn (m_tick_Check G _) ?_
  conv => whnf
  cases hb : tickOK b
  · conv => whnf
    exact Fin.one hTh rfl (by simp [getT, ofValue, countS, hb]) rfl
  conv => whnf
  refine CallTo.fn (m_tick_Check G _) ?_
  conv => whnf
  cases hc : tickOK c
  · conv => whnf
    exact Fin.one hTh rfl (by simp [getT, ofValue, countS, hc]) rfl
  conv => whnf
  refine cond_split (fun h1 => ?_) (fun h1 => ?_)
  · conv => whnf
    exact Fin.one hTh rfl (by simp at h1; simp [getT, ofValue, countS, ha, hb, hc]; intro h; omega) rfl
  conv => whnf
  have h1' : a ≤ c := by simpa using h1
  have ea := ha
  have eb := hb
  have ec := hc
  simp [tickOK] at ea eb ec
  refine cond_split (fun h2 => ?_) (fun h2 => ?_)
  · conv => whnf
    exact Fin.one hTh rfl (by simp at h2; subst h2; simp [getT, ofValue, countS, ha, hb, hc, h1']) rfl
  conv => whnf
  have h2' : b ≠ 0 := by simpa using h2
  have hd : 0 ≤ (c - a).tdiv b ∧ (c - a).tdiv b ≤ c - a := ⟨Int.tdiv_nonneg (by omega) (by omega), by
    rw [Int.tdiv_eq_ediv_of_nonneg (by omega)]
    exact Int.ediv_le_self _ (by omega)⟩
  refine WrapTo.i64 (by omega) ?_
  conv => whnf
  refine OpTo.quo rfl rfl rfl h2' (IntWalk.i64_in _ (by omega)) ?_
  conv => whnf
  refine WrapTo.i64 (by omega) ?_
  conv => whnf
  exact Fin.one hTh rfl (by simp [getT, countS, ha, hb, hc, h1', h2']) rfl
theorem m_ref01_Count (G : GlP) (a b c : Int) : Meets Pg G F_ref01_Count [.int .i64 a, .int .i64 b, .int .i64 c] [] (.int .i64 (countS a b c)) [] := by
  refine meets_pure (F := fe_ref01_Count) hTh hMx func_ref01_Count rfl call_ref01_Count rfl rfl rfl ?_
  conv => whnf
  refine CallTo.fn (m_ref01_Check G _) ?_
  conv => whnf
  cases ha : tickOK a
  · conv => whnf
    exact Fin.one hTh rfl (by simp [getT, ofValue, countS, ha]) rfl
  conv => whnf
  refine CallTo.fn (m_ref01_Check G _) ?_
  conv => whnf
  cases hb : tickOK b
  · conv => whnf
    exact Fin.one hTh rfl (by simp [getT, ofValue, countS, hb]) rfl
  conv => whnf
  refine CallTo.fn (m_ref01_Check G _) ?_
  conv => whnf
  cases hc : tickOK c
  · conv => whnf
    exact Fin.one hTh rfl (by simp [getT, ofValue, countS, hc]) rfl
  conv => whnf
  refine cond_split (fun h1 => ?_) (fun h1 => ?_)
  · conv => whnf
    exact Fin.one hTh rfl (by simp at h1; simp [getT, ofValue, countS, ha, hb, hc]; intro h; omega) rfl
  conv => whnf
  have h1' : a ≤ c := by simpa using h1
  have ea := ha
  have eb := hb
  have ec := hc
  simp [tickOK] at ea eb ec
  refine cond_split (fun h2 => ?_) (fun h2 => ?_)
  · conv => whnf
    exact Fin.one hTh rfl (by simp at h2; subst h2; simp [getT, ofValue, countS, ha, hb, hc, h1']) rfl
  conv => whnf
  have h2' : b ≠ 0 := by simpa using h2
  have hd : 0 ≤ (c - a).tdiv b ∧ (c - a).tdiv b ≤ c - a := ⟨Int.tdiv_nonneg (by omega) (by omega), by
    rw [Int.tdiv_eq_ediv_of_nonneg (by omega)]
    exact Int.ediv_le_self _ (by omega)⟩
  refine WrapTo.i64 (by omega) ?_
  conv => whnf
  refine OpTo.quo rfl rfl rfl h2' (IntWalk.i64_in _ (by omega)) ?_
  conv => whnf
  refine WrapTo.i64 (by omega) ?_
  conv => whnf
  exact Fin.one hTh rfl (by simp [getT, countS, ha, hb, hc, h1', h2']) rfl
theorem m_window_Check (G : GlP) (t : Tms) : Meets Pg G F_window_Check [.agg (cTms t)] [] (.int .i64 (if tmsOK t then 0 else 2)) [] := by
  refine meets_pure (F := fe_window_Check) hTh hMx func_window_Check rfl call_window_Check rfl rfl rfl ?_
  conv => whnf
  refine CallTo.fn (m_tick_Check G _) ?_
  conv => whnf
  cases ha : tickOK t.fr
  · conv => whnf
    exact Fin.one hTh rfl (by simp [getT, ofValue, tmsOK, ha]) rfl
  conv => whnf
  iterate 8 (all_goals (try (refine cond_split (fun _ => ?_) (fun _ => ?_) <;> (conv => whnf))))
  all_goals (refine Fin.one hTh rfl ?_ rfl)
  all_goals (simp_all [getT, ofValue, tmsOK] <;> omega)
theorem m_ref08_Check (G : GlP) (t : Tms) : Meets Pg G F_ref08_Check [.agg (cTms t)] [] (.int .i64 (if tmsOK t then 0 else 2)) [] := by
  refine meets_pure (F := fe_ref08_Check) hTh hMx func_ref08_Check rfl call_ref08_Check rfl rfl rfl ?_
  conv => whnf
  refine CallTo.fn (m_ref01_Check G _) ?_
  conv => whnf
  cases ha : tickOK t.fr
  · conv => whnf
    exact Fin.one hTh rfl (by simp [getT, ofValue, tmsOK, ha]) rfl
  conv => whnf
  iterate 8 (all_goals (try (refine cond_split (fun _ => ?_) (fun _ => ?_) <;> (conv => whnf))))
  all_goals (refine Fin.one hTh rfl ?_ rfl)
  all_goals (simp_all [getT, ofValue, tmsOK] <;> omega)
theorem m_ref08_joined (G : GlP) (ws : List Wn) (hl : ws.length ≤ 4096) : Meets Pg G F_ref08_joined [.lst 2 (ws.map cWn)] [] (.lst 2 ((joinN (fun i => ws.getD i ⟨0, 0⟩) ws.length).map cWn)) [] := by
  refine meets_pure (F := fe_ref08_joined) hTh hMx func_ref08_joined rfl call_ref08_joined rfl rfl rfl ?_
  conv => whnf
  refine LoopOK.conv (Conv.empOwn 3 rfl (F_ref08_joined, 53) rfl T_api_Win 2) ?_
  refine LoopOK.weak _ _ ?_ ?_ ?_ (LoopOK.ind (fun i : Nat => ws.length - i) (fun i => [(0, .lst 2 (ws.map cWn)), (3, .own (F_ref08_joined, 53) (joinN (fun i => ws.getD i ⟨0, 0⟩) i).length), (4, .int .i64 i)])
    (fun i => [((F_ref08_joined, 53), .row T_api_Win 2 ((joinN (fun i => ws.getD i ⟨0, 0⟩) i).map cWn))]) (fun i => i ≤ ws.length) ?_ 0 (by omega))
  · exact ⟨rfl, rfl, rfl, trivial⟩
  · exact ⟨rfl, trivial⟩
  · rfl
  intro i hi IH
  generalize hxs : joinN (fun i => ws.getD i ⟨0, 0⟩) i = xs
  have hxl : xs.length ≤ i := by rw [← hxs]; exact joinN_le _ i
  have hnext : joinN (fun i => ws.getD i ⟨0, 0⟩) (i + 1) = joinStep xs (ws.getD i ⟨0, 0⟩) := by rw [← hxs]; rfl
  have hlw : (xs.map cWn).length = xs.length := List.length_map _
  have hall := wn_two xs
  refine LoopOK.round hTh hMx ?_
  conv => whnf
  refine cond_split (fun h => ?_) (fun hz => ?_)
  · have hlt := lt_of_dec h
    conv => whnf
    refine cond_split (fun h1 => ?_) (fun h1 => ?_)
    · have hn : 0 < xs.length := by simpa using h1
      have hat : (xs.map cWn)[xs.length - 1]? = some (cWn (xs.getD (xs.length - 1) ⟨0, 0⟩)) := map_atD cWn _ (by omega)
      conv => whnf
      refine IndexTo.atD cWn ⟨0, 0⟩ (by omega) (by omega) ?_
      conv => whnf
      refine WrapTo.i64 (by omega) ?_
      conv => whnf
      refine OpTo.rowAt hTh rfl rfl rfl rfl rfl rfl rfl hlw rfl (by omega) (by omega) ?_
      conv => whnf
      refine OpTo.rowField hTh rfl rfl rfl rfl hlw ?_
      conv => whnf
      refine OpTo.rowLoad hTh (xs.length - 1) 1 rfl rfl rfl rfl hlw hall hat (by dsimp only; omega) (by decide) (by decide) rfl ?_
      conv => whnf
      refine ⟨by kernel_rfl, ?_⟩
      conv => whnf
      refine cond_split (fun h2 => ?_) (fun h2 => ?_)
      · have hj := joinStep_set (w := ws.getD i ⟨0, 0⟩) hn (of_decide_eq_true h2)
        conv => whnf
        refine WrapTo.i64 (by omega) ?_
        conv => whnf
        refine WrapTo.i64 (by omega) ?_
        conv => whnf
        refine OpTo.rowAt hTh rfl rfl rfl rfl rfl rfl rfl hlw rfl (by omega) (by omega) ?_
        conv => whnf
        refine OpTo.rowField hTh rfl rfl rfl rfl hlw ?_
        conv => whnf
        refine OpTo.rowLoad hTh (xs.length - 1) 1 rfl rfl rfl rfl hlw hall hat (by dsimp only; omega) (by decide) (by decide) rfl ?_
        conv => whnf
        refine IndexTo.atD cWn ⟨0, 0⟩ (by omega) (by omega) ?_
        conv => whnf
        refine OpTo.max rfl rfl rfl ?_
        conv => whnf
        refine OpTo.rowAt hTh rfl rfl rfl rfl rfl rfl rfl hlw rfl (by omega) (by omega) ?_
        conv => whnf
        refine OpTo.rowField hTh rfl rfl rfl rfl hlw ?_
        conv => whnf
        refine OpTo.rowStore hTh (xs.length - 1) 1 ((joinStep xs (ws.getD i ⟨0, 0⟩)).map cWn) rfl rfl rfl rfl hlw rfl rfl hall hat (by dsimp only; omega) (by decide) (by rw [hj, List.map_set]; rfl) ?_
        conv => whnf
        refine ⟨by kernel_rfl, ?_⟩
        conv => whnf
        refine WrapTo.i64 (by omega) ?_
        conv => whnf
        refine LoopOK.weak _ _ ?_ ?_ ?_ (IH (i + 1) (by omega) (by omega))
        · exact ⟨rfl, own_len (by rw [hnext, hj, List.length_set]), rfl, trivial⟩
        · exact ⟨row_to hnext.symm rfl, trivial⟩
        · exact chk_mk ⟨rfl, rfl, rfl, trivial⟩ ⟨cloX_row (l := jLr) (e := 0) (sz := 2) (Clo.map fWn _), trivial⟩ rfl
      · have hj := joinStep_add (xs := xs) (w := ws.getD i ⟨0, 0⟩) (fun hh => of_decide_eq_false h2 hh.2)
        conv => whnf
        refine IndexTo.atD cWn ⟨0, 0⟩ (by omega) (by omega) ?_
        conv => whnf
        refine ⟨hlw, by simp; omega, ?_⟩
        conv => whnf
        refine WrapTo.i64 (by omega) ?_
        conv => whnf
        refine LoopOK.weak _ _ ?_ ?_ ?_ (IH (i + 1) (by omega) (by omega))
        · exact ⟨rfl, own_len (by rw [hnext, hj, List.length_append]; rfl), rfl, trivial⟩
        · exact ⟨congrArg (fun z => some (ABox.row T_api_Win 2 z)) (by rw [hnext, hj, List.map_append]; rfl), trivial⟩
        · exact chk_mk ⟨rfl, rfl, rfl, trivial⟩ ⟨cloX_row (l := jLr) (e := 0) (sz := 2) (Clo.map fWn _), trivial⟩ rfl
    · have hn : ¬ 0 < xs.length := by simpa using h1
      have hj := joinStep_add (xs := xs) (w := ws.getD i ⟨0, 0⟩) (fun hh => hn hh.1)
      conv => whnf
      refine ⟨by kernel_rfl, ?_⟩
      conv => whnf
      refine IndexTo.atD cWn ⟨0, 0⟩ (by omega) (by omega) ?_
      conv => whnf
      refine ⟨hlw, by simp; omega, ?_⟩
      conv => whnf
      refine WrapTo.i64 (by omega) ?_
      conv => whnf
      refine LoopOK.weak _ _ ?_ ?_ ?_ (IH (i + 1) (by omega) (by omega))
      · exact ⟨rfl, own_len (by rw [hnext, hj, List.length_append]; rfl), rfl, trivial⟩
      · exact ⟨congrArg (fun z => some (ABox.row T_api_Win 2 z)) (by rw [hnext, hj, List.map_append]; rfl), trivial⟩
      · exact chk_mk ⟨rfl, rfl, rfl, trivial⟩ ⟨cloX_row (l := jLr) (e := 0) (sz := 2) (Clo.map fWn _), trivial⟩ rfl
  · have hge := le_of_dec hz
    have : i = ws.length := by omega
    subst this
    subst hxs
    conv => whnf
    exact Fin.own hTh rfl rfl rfl hlw (Clo.map fWn _)
theorem fin_wins {G : GlP} {F : FE} {fn : Func} {T : TL} {L : BL} (t : Tms) (h : Int) (hTh' : TTok Pg F.Θ) (e : Int) (he : winsErr t h = e) (h0 : e ≠ 0) (hres : fn.results.toList = [.tmp 4, .tmp 5]) (h4 : getT T 4 = .emp) (h5 : getT T 5 = .int .i64 e) :
    Fin Pg G F [] fn (.tup [.lst 2 ((winsS t h).map cWn), .int .i64 (winsErr t h)]) [] T L := by
  have e2 : winsS t h = [] := by unfold winsS; rw [he, if_neg h0]
  rw [he, e2]
  refine Fin.less [] [(4, .lst 2 []), (5, .int .i64 e)] [] ⟨by rw [h4]; exact .emp 2, by rw [h5]; exact .refl _, trivial⟩ trivial trivial rfl ?_
  exact Fin.pure hTh' [.lst 2 [], .int .i64 e] (by rw [hres]; rfl) rfl rfl
theorem m_window_Wins (G : GlP) (t : Tms) (h : Int) : Meets Pg G F_window_Wins [.agg (cTms t), .int .i64 h] [] (.tup [.lst 2 ((winsS t h).map cWn), .int .i64 (winsErr t h)]) [] := by
  obtain ⟨n, hn⟩ : ∃ n : Nat, countS t.fr t.ev h = n := ⟨_, (Int.toNat_of_nonneg (countS_bd _ _ _).1).symm⟩
  have hc := m_tick_Count G t.fr t.ev h
  rw [hn] at hc
  refine meets_pure (F := fe_window_Wins) hTh hMx func_window_Wins rfl call_window_Wins rfl rfl rfl ?_
  conv => whnf
  refine CallTo.fn (m_window_Check G t) ?_
  conv => whnf
  cases ht : tmsOK t
  · conv => whnf
    exact fin_wins t h hTh 2 (by simp [winsErr, ht]) (by decide) rfl rfl rfl
  conv => whnf
  refine CallTo.fn (m_tick_Check G h) ?_
  conv => whnf
  cases hh : tickOK h
  · conv => whnf
    exact fin_wins t h hTh 9 (by simp [winsErr, ht, hh]) (by decide) rfl rfl rfl
  conv => whnf
  refine CallTo.fn (hc) ?_
  conv => whnf
  refine cond_split (fun h1 => ?_) (fun h1 => ?_)
  · conv => whnf
    exact fin_wins t h hTh 3 (by simp at h1; simp [winsErr, ht, hh, hn]; omega) (by decide) rfl rfl rfl
  have h1' : n ≤ 256 := by simp at h1; omega
  conv => whnf
  refine CallTo.fn (m_window_each G t n) ?_
  conv => whnf
  refine CallTo.fn (m_window_joined G F_window_each_1 [] _ n (winA t) (m_window_each_1 G t n ht h1') rfl rfl (by omega)) ?_
  conv => whnf
  have e : winsErr t h = 0 := by simp [winsErr, ht, hh, hn]; omega
  have e2 : winsS t h = joinN (winA t) n := by simp [winsS, e, hn]
  rw [e, e2]
  exact Fin.pure hTh [.lst 2 ((joinN (winA t) n).map cWn), .int .i64 0] rfl rfl rfl
theorem m_ref08_Wins (G : GlP) (t : Tms) (h : Int) : Meets Pg G F_ref08_Wins [.agg (cTms t), .int .i64 h] [] (.tup [.lst 2 ((winsS t h).map cWn), .int .i64 (winsErr t h)]) [] := by
  obtain ⟨n, hn⟩ : ∃ n : Nat, countS t.fr t.ev h = n := ⟨_, (Int.toNat_of_nonneg (countS_bd _ _ _).1).symm⟩
  have hc := m_ref01_Count G t.fr t.ev h
  rw [hn] at hc
  refine meets_pure (F := { fe_ref08_Wins with stops := [15] }) hTh hMx func_ref08_Wins rfl call_ref08_Wins rfl rfl rfl ?_
  conv => whnf
  refine CallTo.fn (m_ref08_Check G t) ?_
  conv => whnf
  cases ht : tmsOK t
  · conv => whnf
    exact fin_wins t h hTh 2 (by simp [winsErr, ht]) (by decide) rfl rfl rfl
  conv => whnf
  refine CallTo.fn (m_ref01_Check G h) ?_
  conv => whnf
  cases hh : tickOK h
  · conv => whnf
    exact fin_wins t h hTh 9 (by simp [winsErr, ht, hh]) (by decide) rfl rfl rfl
  conv => whnf
  refine CallTo.fn (hc) ?_
  conv => whnf
  refine cond_split (fun h1 => ?_) (fun h1 => ?_)
  · conv => whnf
    exact fin_wins t h hTh 3 (by simp at h1; simp [winsErr, ht, hh, hn]; omega) (by decide) rfl rfl rfl
  have h1' : n ≤ 256 := by simp at h1; omega
  have hb := tmsOK_spec ht
  conv => whnf
  refine LoopOK.conv (Conv.empOwn 8 rfl (F_ref08_Wins, 48) rfl T_api_Win 2) ?_
  refine LoopOK.weak _ _ ?_ ?_ ?_ (LoopOK.ind (fun i : Nat => n - i) (fun i => [(2, .ref (F_ref08_Wins, 2) 0), (7, .int .i64 n), (8, .own (F_ref08_Wins, 48) i), (9, .int .i64 i)])
    (fun i => [((F_ref08_Wins, 2), .cells T_api_Times (cTms t)), ((F_ref08_Wins, 48), .row T_api_Win 2 (((List.range i).map (winA t)).map cWn))]) (fun i => i ≤ n) ?_ 0 (by omega))
  · exact ⟨rfl, rfl, rfl, rfl, trivial⟩
  · exact ⟨rfl, rfl, trivial⟩
  · rfl
  intro i hi IH
  refine LoopOK.round hTh hMx ?_
  conv => whnf
  refine cond_split (fun h2 => ?_) (fun hz => ?_)
  · have hlt : i < n := by simpa using h2
    have hmb := mul_bd (a := (i : Int)) (A := 256) (by omega) (by omega) hb.2.2.2.2.1 hb.2.2.2.2.2
    conv => whnf
    refine WrapTo.i64 (by omega) ?_
    conv => whnf
    refine WrapTo.i64 (by omega) ?_
    conv => whnf
    refine WrapTo.i64 (by omega) ?_
    conv => whnf
    refine ⟨by simp only [List.length_map, List.length_range], by simp only [List.length_cons, List.length_nil]; omega, ?_⟩
    conv => whnf
    refine WrapTo.i64 (by omega) ?_
    conv => whnf
    refine LoopOK.weak _ _ ?_ ?_ ?_ (IH (i + 1) (by omega) (by omega))
    · exact ⟨rfl, rfl, rfl, rfl, trivial⟩
    · exact ⟨rfl, congrArg (fun z => some (ABox.row T_api_Win 2 z)) map_range_succ, trivial⟩
    · exact chk_mk ⟨rfl, rfl, rfl, rfl, trivial⟩ ⟨rfl, cloX_row (l := jLr) (e := 0) (sz := 2) (Clo.map fWn _), trivial⟩ rfl
  · have : i = n := by simp at hz; omega
    subst this
    have hlen : ((List.range i).map (winA t)).length = i := by simp
    have e : winsErr t h = 0 := by simp [winsErr, ht, hh, hn]; omega
    have e2 : winsS t h = joinN (fun k => ((List.range i).map (winA t)).getD k ⟨0, 0⟩) ((List.range i).map (winA t)).length := by
      simp only [winsS, e, hn, if_true, hlen]
      refine joinN_congr _ fun k hk => ?_
      simp at hk
      simp [List.getD, hk]
    rw [e, e2]
    conv => whnf
    refine CodeTo.less [((F_ref08_Wins, 48), .row T_api_Win 2 (((List.range i).map (winA t)).map cWn))] [(8, .lst 2 (((List.range i).map (winA t)).map cWn))] [] ⟨.own List.mem_cons_self (by simp), trivial⟩ trivial ⟨rfl, Clo.map fWn _, rfl, trivial⟩ rfl ?_
    refine CodeTo.go hTh hMx ?_
    conv => whnf
    refine CallTo.fn (m_ref08_joined G _ (by simp; omega)) ?_
    conv => whnf
    exact Fin.pure hTh [.lst 2 ((joinN (fun k => ((List.range i).map (winA t)).getD k ⟨0, 0⟩) ((List.range i).map (winA t)).length).map cWn), .int .i64 0] rfl rfl rfl
end Go.Proofs.YtelpibkbcljdlaaGreatDoor
/- Tables of names: a new one; a name added. -/
set_option linter.unusedVariables false
set_option linter.unusedSimpArgs false
set_option maxRecDepth 10000
namespace Go.Ab
def entA (xs : List Str) : List (AV × AV) := xs.zipIdx.map fun p => (AV.str p.1, AV.int .i64 p.2)
theorem keyIdx_ent (s : Str) : ∀ (xs : List Str) (j k : Nat), keyIdx s ((xs.zipIdx j).map fun p => (AV.str p.1, AV.int .i64 p.2)) k = some ((xs.findIdx? fun t => s == t).map (· + k))
  | [], j, k => rfl
  | x :: xs, j, k => by
    simp only [List.zipIdx_cons, List.map_cons, keyIdx, keyIdx_ent s xs (j + 1) (k + 1), List.findIdx?_cons]
    cases h : (s == x) with
    | true => simp
    | false =>
      simp only [cond_false]
      cases List.findIdx? (fun t => s == t) xs with
      | none => rfl
      | some i => simp; omega
theorem keyIdx_no {s : Str} {xs : List Str} (h : s ∉ xs) : keyIdx s (entA xs) 0 = some none := by
  unfold entA
  rw [keyIdx_ent s xs 0 0, List.findIdx?_eq_none_iff.2 (fun x hx => by simp; intro e; subst e; exact h hx)]
  rfl
theorem keyIdx_yes {s : Str} {xs : List Str} (h : s ∈ xs) : ∃ i, i < xs.length ∧ keyIdx s (entA xs) 0 = some (some i) := by
  unfold entA
  rw [keyIdx_ent s xs 0 0]
  cases hf : xs.findIdx? (fun t => s == t) with
  | none =>
    rw [List.findIdx?_eq_none_iff] at hf
    simpa using hf s h
  | some i =>
    rw [List.findIdx?_eq_some_iff_getElem] at hf
    exact ⟨i, hf.1, by simp⟩
theorem entA_len (xs : List Str) : (entA xs).length = xs.length := by simp [entA]
theorem entA_get {xs : List Str} {i : Nat} (h : i < xs.length) : (entA xs)[i]? = some (AV.str xs[i], AV.int .i64 i) := by
  simp [entA, h]
theorem entA_snoc (xs : List Str) (s : Str) : entA (xs ++ [s]) = entA xs ++ [(AV.str s, AV.int .i64 xs.length)] := by
  simp [entA, List.zipIdx_append]
theorem entA_put (xs : List Str) (s : Str) (z : AV) : (entA xs ++ [(AV.str s, z)]).set xs.length (AV.str s, AV.int .i64 xs.length) = entA (xs ++ [s]) := by
  rw [entA_snoc, ← entA_len xs]
  simp [List.set_append]
theorem entA_clo (xs : List Str) : cloX (fun _ => false) (.dmap (entA xs)) = true := by
  simp only [cloX, Bool.and_eq_true, entA, List.map_map]
  constructor
  · induction xs.zipIdx with
    | nil => rfl
    | cons p l ih => simpa [cloL, cloB] using ih
  · induction xs.zipIdx with
    | nil => rfl
    | cons p l ih => simpa [cloL, cloB] using ih
theorem entA_cloD {D : Lbl → Bool} (xs : List Str) : cloX D (.dmap (entA xs)) = true := by
  have := entA_clo xs
  simp only [cloX, Bool.and_eq_true] at this ⊢
  exact ⟨cloL_mono (fun _ h => by cases h) _ this.1, cloL_mono (fun _ h => by cases h) _ this.2⟩
theorem CallTo.fnNew {P : Program} {G : GlP} {f : FuncId} {args : List AV} {L gp : BL} {K : AV → BL → Nat → Prop} {r : AV} (h : Meets P G f args [] r gp) (hn : NoneAll L gp) (hK : K r gp 2) : CallTo P G (.fn (.func f) [] []) args L K :=
  ⟨r, [], gp, 2, MeetsV.of (first := []) (cap := []) (by simpa using h), fun l b hb => by simp [getL] at hb, fun l b hb => .inr (by
    have : ∀ {gp : BL}, NoneAll L gp → ∀ l b, getL gp l = some b → getL L l = none := by
      intro gp
      induction gp with
      | nil => intro _ l b hb; simp [getL] at hb
      | cons p q ih =>
        obtain ⟨k, o⟩ := p
        rintro ⟨h1, h2⟩ l b hb
        simp only [getL] at hb
        cases hk : lbeq k l with
        | true => rw [← lbeq_iff.1 hk]; exact h1
        | false => rw [hk] at hb; exact ih h2 l b hb
    exact this hn l b hb), Cls.news, hK⟩
/-- A call that gives its boxes back, under the same labels. -/
theorem meets_upd {P : Program} {G : GlP} {F : FE} (hΘ : TTok P F.Θ) (hm : P.follows .mixedOrders = true) {f : FuncId} {fn : Func} {c : Code} {args : List AV} {R : BL} {r : AV} {gp : BL}
    (hf : P.funcs[f]? = some fn) (hb : fn.body = some c) (hcall : ∀ (a : Array Value) (w : World), (callFunc f a).run P w = .ok (.enter f a) w) (hN : F.N = args.length + (fn.ntmps - args.length))
    (hk : ∀ l, keyB R l = keyB gp l) (hca : cloL (keyB R) args = true) (hcR : AllL (keyB R) R) (hcr : cloB (keyB gp) r = true) (hcg : AllL (keyB gp) gp)
    (h : acode P G F R c (argT 0 args) R (EndK P G F R fn r gp)) (hro : F.ro = none := by rfl) : Meets P G f args R r gp := by
  have hg := getL_sup (gp := gp) (L := R) fun l h => by rw [← hk l]; exact h
  have e : keyB (gp ++ R) = keyB gp := funext fun l => by simp only [keyB, hg]
  exact meets_intro hΘ hm hf hb hcall hN hca (fun l o h => List.all_eq_true.1 hcR.spec _ (getL_mem h)) (by rw [e]; exact hcr) (fun l o h => by rw [hg] at h; rw [e]; exact List.all_eq_true.1 hcg.spec _ (getL_mem h)) h hro
theorem Fin.upd {P : Program} {G : GlP} {F : FE} (hΘ : TTok P F.Θ) {R : BL} {fn : Func} {r : AV} {gp : BL} {T : TL} {L : BL} (l : List AV) (hr : resA F.Θ T L fn.results.toList = some l) (hv : resV l = r) (hk : ∀ l, keyB R l = keyB gp l)
    (hl : SubL gp L) (hc : cloB (keyB gp) r = true) (hx : AllL (keyB gp) gp) : Fin P G F R fn r gp T L := by
  have hg := getL_sup (gp := gp) (L := R) fun l h => by rw [← hk l]; exact h
  have e : keyB (gp ++ R) = keyB gp := funext fun l => by simp only [keyB, hg]
  exact Fin.done hΘ l hr hv (fun l o h => by rw [hg] at h; exact hl.spec l o h) (by rw [e]; exact hc) (fun l o h => by rw [hg] at h; rw [e]; exact List.all_eq_true.1 hx.spec _ (getL_mem h))
end Go.Ab
namespace Go.Proofs.YtelpibkbcljdlaaGreatDoor
open Go Go.Ab
def tbB (xs : List Str) : BL := [((F_intern_New, 12), .cells T_intern_Table [.own (F_intern_New, 1000) xs.length, .mp (F_intern_New, 9)]), ((F_intern_New, 1000), .row T_string 1 (xs.map cS)), ((F_intern_New, 9), .dmap (entA xs))]
theorem tbClo (xs : List Str) : AllL (keyB (tbB xs)) (tbB xs) := ⟨rfl, cloX_row (l := jLr) (e := 0) (sz := 1) (Clo.map fS _), entA_cloD _, trivial⟩
theorem m_intern_New (G : GlP) : Meets Pg G F_intern_New [.emp] [] (.tup [.ref (F_intern_New, 12) 0, .int .i64 0]) [((F_intern_New, 12), .cells T_intern_Table [.emp, .mp (F_intern_New, 9)]), ((F_intern_New, 9), .dmap [])] := by
  refine meets_mk (F := fe_intern_New) hTh hMx func_intern_New rfl call_intern_New rfl rfl rfl rfl rfl ?_
  conv => whnf
  refine OpTo.mkMap (F_intern_New, 9) rfl rfl ?_
  conv => whnf
  refine LoopOK.round hTh hMx ?_
  conv => whnf
  exact Fin.give hTh [.ref (F_intern_New, 12) 0, .int .i64 0] rfl rfl ⟨rfl, rfl, trivial⟩ rfl rfl
def addErr (xs : List Str) (s : Str) : Int := if !nameOK s then 7 else if s ∈ xs then 6 else if 4096 ≤ xs.length then 3 else 0
def addNext (xs : List Str) (s : Str) : List Str := if addErr xs s = 0 then xs ++ [s] else xs
def addNum (xs : List Str) (s : Str) : Int := if addErr xs s = 0 then xs.length else 0
theorem tbKey (xs ys : List Str) (l : Lbl) : keyB (tbB xs) l = keyB (tbB ys) l := by simp only [tbB, keyB_cons]
theorem add_fails {G : GlP} {F : FE} {fn : Func} {T : TL} {L : BL} (hΘ : TTok Pg F.Θ) (xs : List Str) (s : Str) (e : Int) (hres : fn.results.toList = [.tmp 4, .tmp 5]) (he : addErr xs s = e) (h0 : e ≠ 0) (hL : SubL (tbB xs) L) (h4 : getT T 4 = .int .i64 0) (h5 : getT T 5 = .int .i64 e) :
    Fin Pg G F (tbB xs) fn (.tup [.int .i64 (addNum xs s), .int .i64 (addErr xs s)]) (tbB (addNext xs s)) T L := by
  have e1 : addNum xs s = 0 := by unfold addNum; rw [he, if_neg h0]
  have e2 : addNext xs s = xs := by unfold addNext; rw [he, if_neg h0]
  rw [e1, e2, he]
  exact Fin.upd hΘ [.int .i64 0, .int .i64 e] (by rw [hres, ← h4, ← h5]; rfl) rfl (fun _ => rfl) hL rfl (tbClo xs)
theorem m_intern_Add (G : GlP) (hR : Res G) (xs : List Str) (s : Str) (hl : s.length ≤ 9223372036854775807) (hx : xs.length ≤ 4096) :
    Meets Pg G F_intern_Table_Add [.ref (F_intern_New, 12) 0, .str s] (tbB xs) (.tup [.int .i64 (addNum xs s), .int .i64 (addErr xs s)]) (tbB (addNext xs s)) := by
  refine meets_upd (F := fe_intern_Table_Add) hTh hMx func_intern_Table_Add rfl call_intern_Table_Add rfl (tbKey _ _) rfl (tbClo xs) rfl (tbClo _) ?_
  have hlw : (xs.map cS).length = xs.length := List.length_map _
  conv => whnf
  refine OpTo.eqP hTh rfl rfl rfl rfl rfl ?_
  conv => whnf
  by_cases hm : s ∈ xs
  · obtain ⟨i, hi, hk⟩ := keyIdx_yes hm
    refine OpTo.look hTh rfl rfl rfl rfl rfl rfl rfl rfl rfl hk ⟨_, entA_get hi, rfl⟩ ?_
    conv => whnf
    refine CallTo.fn (m_lex_Name G hR s hl) ?_
    conv => whnf
    cases hn : nameOK s
    · conv => whnf
      exact add_fails hTh xs s 7 rfl (by simp [addErr, hn]) (by decide) ⟨rfl, rfl, rfl, trivial⟩ rfl rfl
    conv => whnf
    exact add_fails hTh xs s 6 rfl (by simp [addErr, hn, hm]) (by decide) ⟨rfl, rfl, rfl, trivial⟩ rfl rfl
  · have hk := keyIdx_no hm
    refine OpTo.look hTh rfl rfl rfl rfl rfl rfl rfl rfl rfl hk rfl ?_
    conv => whnf
    refine CallTo.fn (m_lex_Name G hR s hl) ?_
    conv => whnf
    cases hn : nameOK s
    · conv => whnf
      exact add_fails hTh xs s 7 rfl (by simp [addErr, hn]) (by decide) ⟨rfl, rfl, rfl, trivial⟩ rfl rfl
    conv => whnf
    refine cond_split (fun h => ?_) (fun h => ?_)
    · conv => whnf
      exact add_fails hTh xs s 3 rfl (by simp at h; simp [addErr, hn, hm]; omega) (by decide) ⟨rfl, rfl, rfl, trivial⟩ rfl rfl
    have he : addErr xs s = 0 := by simp at h; simp [addErr, hn, hm]; omega
    have e1 : addNum xs s = xs.length := by unfold addNum; rw [he, if_pos rfl]
    have e2 : addNext xs s = xs ++ [s] := by unfold addNext; rw [he, if_pos rfl]
    rw [e1, e2, he]
    conv => whnf
    refine ⟨hlw, by simp; omega, ?_⟩
    conv => whnf
    refine OpTo.entry hTh rfl rfl rfl rfl rfl rfl rfl rfl rfl hk ?_
    conv => whnf
    refine OpTo.putE (i := xs.length) rfl rfl rfl (by rw [entA_len]; rfl) rfl (p := (AV.str s, AV.int .i64 0)) ?_ (entA_put xs s _).symm ?_
    · rw [← entA_len xs, List.getElem?_append_right (Nat.le_refl _), Nat.sub_self]
      rfl
    conv => whnf
    refine ⟨by kernel_rfl, ?_⟩
    conv => whnf
    refine WrapTo.i64 (by simp; omega) ?_
    conv => whnf
    exact Fin.upd hTh [.int .i64 xs.length, .int .i64 0] (by simp; rfl) rfl (tbKey _ _) ⟨congrArg (fun k => some (ABox.cells T_intern_Table [.own (F_intern_New, 1000) k, .mp (F_intern_New, 9)])) (by simp), congrArg (fun z => some (ABox.row T_string 1 z)) (by simp [cS]), rfl, trivial⟩ rfl (tbClo _)
end Go.Proofs.YtelpibkbcljdlaaGreatDoor
/- Worlds: what is wrong with a thing, by the program and by the document. -/
set_option linter.unusedVariables false
set_option linter.unusedSimpArgs false
set_option maxRecDepth 10000
namespace Go.Ab
def wayE (a b n : Int) : Int := if a < 0 ∨ b < 0 then 5 else if a = b ∨ n < 1 then 2 else 0
def pathE (p : PthO) : Int := wayE p.a p.b p.ln
def doorE (h : Int) (d : DorO) : Int := if wayE d.a d.b d.ln = 0 then winsErr d.tm h else wayE d.a d.b d.ln
def rideOdd (r : RteO) (k : Nat) : Bool := decide (r.rides.getD k 0 < 1) || (r.stops.getD k 0 == r.stops.getD (k + 1) 0)
def routeE (r : RteO) : Int := if r.stops.any (fun s => -1 == s) then 5 else if (List.range r.rides.length).any (rideOdd r) then 2 else 0
def tripE (t : TrpO) : Int := if t.route < 0 then 5 else if t.un < t.fr then 2 else 0
def hazE (h : Int) (x : HzdO) : Int := if x.on < 0 then 5 else winsErr x.tm h
/-- What is known of a route whose numbers may be -1. -/
structure RteNum (r : RteO) : Prop where
  low : ∀ s ∈ r.stops, -1 ≤ s
  len : r.rides.length + 1 = r.stops.length
  few : r.stops.length ≤ 65536
theorem any_range {p : Nat → Bool} {n i : Nat} (hi : i < n) (hp : p i = true) : (List.range n).any p = true := List.any_eq_true.2 ⟨i, List.mem_range.2 hi, hp⟩
theorem none_range {p : Nat → Bool} {n : Nat} (h : ∀ i, i < n → p i = false) : (List.range n).any p = false := List.any_eq_false.2 fun i hi => by simp [h i (List.mem_range.1 hi)]
end Go.Ab
namespace Go.Proofs.YtelpibkbcljdlaaGreatDoor
open Go Go.Ab
theorem m_world_way (G : GlP) (a b n : Int) : Meets Pg G F_world_way [.int .i64 a, .int .i64 b, .int .i64 n] [] (.int .i64 (wayE a b n)) [] := by
  refine meets_pure (F := fe_world_way) hTh hMx func_world_way rfl call_world_way rfl rfl rfl ?_
  conv => whnf
  refine OpTo.min rfl rfl rfl ?_
  conv => whnf
  refine cond_split (fun h => ?_) (fun h => ?_)
  · conv => whnf
    exact Fin.one hTh rfl (by simp at h; simp [getT, ofValue, wayE]; intro h'; omega) rfl
  conv => whnf
  have h1 : ¬ (a < 0 ∨ b < 0) := by simp at h; omega
  refine cond_split (fun h2 => ?_) (fun h2 => ?_)
  · conv => whnf
    exact Fin.one hTh rfl (by simp at h2; simp [getT, ofValue, wayE, h1, h2]; omega) rfl
  conv => whnf
  have h2' : ¬ a = b := by simpa using h2
  refine cond_split (fun h3 => ?_) (fun h3 => ?_)
  · conv => whnf
    exact Fin.one hTh rfl (by simp at h3; simp [getT, ofValue, wayE, h1, h2']; omega) rfl
  conv => whnf
  exact Fin.one hTh rfl (by simp at h3; simp [getT, ofValue, wayE, h1, h2']; omega) rfl
theorem m_ref09_way (G : GlP) (a b n : Int) : Meets Pg G F_ref09_way [.int .i64 a, .int .i64 b, .int .i64 n] [] (.int .i64 (wayE a b n)) [] := by
  refine meets_pure (F := fe_ref09_way) hTh hMx func_ref09_way rfl call_ref09_way rfl rfl rfl ?_
  conv => whnf
  iterate 8 (all_goals (try (refine cond_split (fun _ => ?_) (fun _ => ?_) <;> (conv => whnf))))
  all_goals (refine Fin.one hTh rfl ?_ rfl)
  all_goals (simp_all [getT, ofValue, wayE] <;> omega)
def lcB : Lbl := (F_world_wrong, 17)
def cbx (w : Wld) (xs : List Str) : BL := (lcB, .cells T_world_checker [.ref (F_intern_New, 12) 0, .pp (cWld w)]) :: tbB xs
theorem cbClo (w : Wld) (xs : List Str) : AllL (keyB (cbx w xs)) (cbx w xs) := ⟨rfl, rfl, cloX_row (l := jLr) (e := 0) (sz := 1) (Clo.map fS _), entA_cloD _, trivial⟩
theorem m_checker_fine (G : GlP) (w : Wld) (xs : List Str) (i : Int) : Meets Pg G F_world_checker_fine [.ref lcB 0, .int .i64 i] (cbx w xs) (.int .i64 0) [] := by
  refine meets_sees (F := fe_world_checker_fine) hTh hMx func_world_checker_fine rfl call_world_checker_fine rfl rfl (cbClo w xs) rfl ?_
  conv => whnf
  exact Fin.sees hTh [.int .i64 0] rfl rfl ⟨rfl, rfl, rfl, rfl, trivial⟩ rfl (cbClo w xs)
theorem m_checker_path (G : GlP) (w : Wld) (xs : List Str) (i : Nat) (hi : i < w.paths.length) : Meets Pg G F_world_checker_path [.ref lcB 0, .int .i64 i] (cbx w xs) (.int .i64 (pathE w.paths[i])) [] := by
  refine meets_sees (F := fe_world_checker_path) hTh hMx func_world_checker_path rfl call_world_checker_path rfl rfl (cbClo w xs) rfl ?_
  conv => whnf
  refine IndexTo.at (map_at cPthO hi) ?_
  conv => whnf
  refine CallTo.fn (m_world_way G _ _ _) ?_
  conv => whnf
  exact Fin.sees hTh [.int .i64 (pathE w.paths[i])] rfl rfl ⟨rfl, rfl, rfl, rfl, trivial⟩ rfl (cbClo w xs)
theorem m_checker_times (G : GlP) (w : Wld) (xs : List Str) (t : Tms) : Meets Pg G F_world_checker_times [.ref lcB 0, .agg (cTms t)] (cbx w xs) (.int .i64 (winsErr t w.hor)) [] := by
  refine meets_sees (F := fe_world_checker_times) hTh hMx func_world_checker_times rfl call_world_checker_times rfl rfl (cbClo w xs) rfl ?_
  conv => whnf
  refine CallTo.fn (m_window_Wins G t w.hor) ?_
  conv => whnf
  refine ⟨by kernel_rfl, ?_⟩
  conv => whnf
  exact Fin.sees hTh [.int .i64 (winsErr t w.hor)] rfl rfl ⟨rfl, rfl, rfl, rfl, trivial⟩ rfl (cbClo w xs)
theorem m_checker_door (G : GlP) (w : Wld) (xs : List Str) (i : Nat) (hi : i < w.doors.length) : Meets Pg G F_world_checker_door [.ref lcB 0, .int .i64 i] (cbx w xs) (.int .i64 (doorE w.hor w.doors[i])) [] := by
  refine meets_sees (F := fe_world_checker_door) hTh hMx func_world_checker_door rfl call_world_checker_door rfl rfl (cbClo w xs) rfl ?_
  conv => whnf
  refine IndexTo.at (map_at cDorO hi) ?_
  conv => whnf
  refine CallTo.fn (m_world_way G _ _ _) ?_
  conv => whnf
  refine cond_split (fun h => ?_) (fun h => ?_)
  · have e : doorE w.hor w.doors[i] = wayE w.doors[i].a w.doors[i].b w.doors[i].ln := by unfold doorE; rw [if_neg (by simpa using h)]
    rw [e]
    conv => whnf
    exact Fin.sees hTh [.int .i64 _] rfl rfl ⟨rfl, rfl, rfl, rfl, trivial⟩ rfl (cbClo w xs)
  · have e : doorE w.hor w.doors[i] = winsErr w.doors[i].tm w.hor := by unfold doorE; rw [if_pos (by simpa using h)]
    rw [e]
    conv => whnf
    refine CallTo.fnSees (m_checker_times G w xs w.doors[i].tm) ⟨rfl, rfl, rfl, rfl, trivial⟩ ?_
    conv => whnf
    exact Fin.sees hTh [.int .i64 _] rfl rfl ⟨rfl, rfl, rfl, rfl, trivial⟩ rfl (cbClo w xs)
theorem m_checker_trip (G : GlP) (w : Wld) (xs : List Str) (i : Nat) (hi : i < w.trips.length) : Meets Pg G F_world_checker_trip [.ref lcB 0, .int .i64 i] (cbx w xs) (.int .i64 (tripE w.trips[i])) [] := by
  refine meets_sees (F := fe_world_checker_trip) hTh hMx func_world_checker_trip rfl call_world_checker_trip rfl rfl (cbClo w xs) rfl ?_
  conv => whnf
  refine IndexTo.at (map_at cTrpO hi) ?_
  conv => whnf
  refine cond_split (fun h => ?_) (fun h => ?_)
  · have e : tripE w.trips[i] = 5 := by simp at h; simp [tripE, h]
    rw [e]
    conv => whnf
    exact Fin.sees hTh [.int .i64 5] rfl rfl ⟨rfl, rfl, rfl, rfl, trivial⟩ rfl (cbClo w xs)
  conv => whnf
  refine cond_split (fun h2 => ?_) (fun h2 => ?_)
  · have e : tripE w.trips[i] = 2 := by simp at h h2; simp [tripE, h2]; omega
    rw [e]
    conv => whnf
    exact Fin.sees hTh [.int .i64 2] rfl rfl ⟨rfl, rfl, rfl, rfl, trivial⟩ rfl (cbClo w xs)
  have e : tripE w.trips[i] = 0 := by simp at h h2; simp [tripE]; omega
  rw [e]
  conv => whnf
  exact Fin.sees hTh [.int .i64 0] rfl rfl ⟨rfl, rfl, rfl, rfl, trivial⟩ rfl (cbClo w xs)
theorem m_checker_hazard (G : GlP) (w : Wld) (xs : List Str) (i : Nat) (hi : i < w.hazards.length) : Meets Pg G F_world_checker_hazard [.ref lcB 0, .int .i64 i] (cbx w xs) (.int .i64 (hazE w.hor w.hazards[i])) [] := by
  refine meets_sees (F := fe_world_checker_hazard) hTh hMx func_world_checker_hazard rfl call_world_checker_hazard rfl rfl (cbClo w xs) rfl ?_
  conv => whnf
  refine IndexTo.at (map_at cHzdO hi) ?_
  conv => whnf
  refine cond_split (fun h => ?_) (fun h => ?_)
  · have e : hazE w.hor w.hazards[i] = 5 := by simp at h; simp [hazE, h]
    rw [e]
    conv => whnf
    exact Fin.sees hTh [.int .i64 5] rfl rfl ⟨rfl, rfl, rfl, rfl, trivial⟩ rfl (cbClo w xs)
  have e : hazE w.hor w.hazards[i] = winsErr w.hazards[i].tm w.hor := by simp at h; simp [hazE]; omega
  rw [e]
  conv => whnf
  refine CallTo.fnSees (m_checker_times G w xs w.hazards[i].tm) ⟨rfl, rfl, rfl, rfl, trivial⟩ ?_
  conv => whnf
  exact Fin.sees hTh [.int .i64 _] rfl rfl ⟨rfl, rfl, rfl, rfl, trivial⟩ rfl (cbClo w xs)
theorem m_checker_route (G : GlP) (w : Wld) (xs : List Str) (i : Nat) (hi : i < w.routes.length) (hr : RteNum w.routes[i]) : Meets Pg G F_world_checker_route [.ref lcB 0, .int .i64 i] (cbx w xs) (.int .i64 (routeE w.routes[i])) [] := by
  have b1 := hr.len
  have b2 := hr.few
  refine meets_sees (F := fe_world_checker_route) hTh hMx func_world_checker_route rfl call_world_checker_route rfl rfl (cbClo w xs) rfl ?_
  conv => whnf
  refine IndexTo.at (map_at cRteO hi) ?_
  conv => whnf
  refine CallTo.fn (m_slices_Contains_int_int G w.routes[i].stops (-1) (by omega)) ?_
  conv => whnf
  refine cond_split (fun h => ?_) (fun h => ?_)
  · have e : routeE w.routes[i] = 5 := by unfold routeE; rw [if_pos h]
    rw [e]
    conv => whnf
    exact Fin.sees hTh [.int .i64 5] rfl rfl ⟨rfl, rfl, rfl, rfl, trivial⟩ rfl (cbClo w xs)
  conv => whnf
  refine LoopOK.weak _ _ ?_ ?_ ?_ (LoopOK.ind (fun k : Nat => w.routes[i].rides.length - k) (fun k => [(5, .ref (F_world_checker_route, 5) 0), (22, .lst 1 (w.routes[i].rides.map cI)), (23, .int .i64 (w.routes[i].rides.map cI).length), (24, .int .i64 k)])
    (fun k => ((F_world_checker_route, 5), .cells T_api_RouteOf (cRteO w.routes[i])) :: cbx w xs) (fun k => k ≤ w.routes[i].rides.length ∧ ∀ j, j < k → rideOdd w.routes[i] j = false) ?_ 0 ⟨by omega, fun j hj => by omega⟩)
  · exact ⟨rfl, rfl, rfl, rfl, trivial⟩
  · exact ⟨rfl, rfl, rfl, rfl, rfl, trivial⟩
  · exact chk_mk ⟨rfl, rfl, rfl, rfl, trivial⟩ ⟨rfl, rfl, rfl, cloX_row (l := jLr) (e := 0) (sz := 1) (Clo.map fS _), entA_cloD _, trivial⟩ rfl
  rintro k ⟨hk, hb⟩ IH
  refine LoopOK.round hTh hMx ?_
  conv => whnf
  refine cond_split (fun h1 => ?_) (fun hz => ?_)
  · have hlt := lt_of_dec h1
    have g1 : w.routes[i].rides[k] = w.routes[i].rides.getD k 0 := by simp [List.getD, hlt]
    have hodd : ∀ b, rideOdd w.routes[i] k = b → b = true → routeE w.routes[i] = 2 := fun b e1 e2 => by
      unfold routeE
      rw [if_neg (by simp [h]), if_pos (any_range hlt (e1.trans e2))]
    conv => whnf
    refine IndexTo.atD cI 0 (by omega) (by omega) ?_
    conv => whnf
    refine cond_split (fun h2 => ?_) (fun h2 => ?_)
    · have e : routeE w.routes[i] = 2 := hodd _ rfl (by simp only [rideOdd, Int.toNat_natCast] at h2 ⊢; rw [h2]; rfl)
      rw [e]
      conv => whnf
      refine ⟨by kernel_rfl, ?_⟩
      conv => whnf
      exact Fin.sees hTh [.int .i64 2] rfl rfl ⟨rfl, rfl, rfl, rfl, trivial⟩ rfl (cbClo w xs)
    conv => whnf
    refine IndexTo.atD cI 0 (by omega) (by omega) ?_
    conv => whnf
    refine WrapTo.i64 (by omega) ?_
    conv => whnf
    refine IndexTo.atD cI 0 (by omega) (by omega) ?_
    conv => whnf
    refine ⟨by kernel_rfl, ?_⟩
    conv => whnf
    refine cond_split (fun h3 => ?_) (fun h3 => ?_)
    · have e : routeE w.routes[i] = 2 := hodd _ rfl (by
        have e1 : ((k : Int) + 1).toNat = k + 1 := by omega
        simp only [rideOdd, Int.toNat_natCast, e1] at h3 ⊢; rw [h3]; simp)
      rw [e]
      conv => whnf
      exact Fin.sees hTh [.int .i64 2] rfl rfl ⟨rfl, rfl, rfl, rfl, trivial⟩ rfl (cbClo w xs)
    have hno : rideOdd w.routes[i] k = false := by
      have e1 : ((k : Int) + 1).toNat = k + 1 := by omega
      simp only [rideOdd, Int.toNat_natCast, e1] at h2 h3 ⊢
      rw [h2, h3]; rfl
    conv => whnf
    refine WrapTo.i64 (by omega) ?_
    conv => whnf
    refine LoopOK.weak _ _ ?_ ?_ ?_ (IH (k + 1) (by omega) ⟨by omega, fun j hj => by
      rcases Nat.lt_succ_iff_lt_or_eq.1 hj with h | rfl
      · exact hb j h
      · exact hno⟩)
    · exact ⟨rfl, rfl, rfl, rfl, trivial⟩
    · exact ⟨rfl, rfl, rfl, rfl, rfl, trivial⟩
    · exact chk_mk ⟨rfl, rfl, rfl, rfl, trivial⟩ ⟨rfl, rfl, rfl, cloX_row (l := jLr) (e := 0) (sz := 1) (Clo.map fS _), entA_cloD _, trivial⟩ rfl
  · have hge := le_of_dec hz
    have e : routeE w.routes[i] = 0 := by
      unfold routeE
      rw [if_neg (by simp [h]), if_neg (by rw [none_range fun j hj => hb j (by omega)]; decide)]
    rw [e]
    conv => whnf
    exact Fin.sees hTh [.int .i64 0] rfl rfl ⟨rfl, rfl, rfl, rfl, trivial⟩ rfl (cbClo w xs)
end Go.Proofs.YtelpibkbcljdlaaGreatDoor
/- Worlds: what is wrong with a world that was numbered, by the program. -/
set_option linter.unusedVariables false
set_option linter.unusedSimpArgs false
set_option maxRecDepth 10000
namespace Go.Ab
def nmK (n : Nms) : List (List Str) := [n.stops, n.paths, n.doors, n.routes, n.trips, n.hazards]
/-- The first of a list that has been there before. -/
def dup1 (seen l : List Str) : Option Nat := (List.range l.length).find? fun i => (seen ++ l.take i).contains (l.getD i [])
def dupK (seen : List Str) : Nat → List (List Str) → Option (Nat × Nat)
  | _, [] => none
  | k, l :: r => match dup1 seen l with
    | some i => some (k, i)
    | none => dupK (seen ++ l) (k + 1) r
def dupS (n : Nms) : Option (Nat × Nat) := dupK [] 1 (nmK n)
theorem find_range_hit {p : Nat → Bool} {n i : Nat} (hi : i < n) (hp : p i = true) (hb : ∀ j, j < i → p j = false) : (List.range n).find? p = some i := by
  rw [List.find?_range_eq_some]
  exact ⟨hp, List.mem_range.2 hi, fun j hj => by simp [hb j hj]⟩
theorem find_range_miss {p : Nat → Bool} {n : Nat} (hb : ∀ j, j < n → p j = false) : (List.range n).find? p = none := by
  rw [List.find?_range_eq_none]
  intro j hj
  simp [hb j hj]
theorem getD_at {α : Type} {l : List α} {i : Nat} (d : α) (h : i < l.length) : l.getD i d = l[i] := by simp [List.getD, h]
def errAll (w : Wld) : List (List Int) := [[], List.replicate w.names.stops.length 0, w.paths.map pathE, w.doors.map (doorE w.hor), w.routes.map routeE, w.trips.map tripE, w.hazards.map (hazE w.hor)]
def errKs : Nat → List (List Int) → Option (Int × Nat × Nat)
  | _, [] => none
  | k, es :: r => match es.findIdx? (fun e => e != 0) with
    | some i => some (es.getD i 0, k, i)
    | none => errKs (k + 1) r
def firstS (w : Wld) : Option (Int × Nat × Nat) := errKs 0 (errAll w)
def wrongS (w : Wld) : Wrg := match dupS w.names with
  | some (k, i) => ⟨6, k, i⟩
  | none => match firstS w with
    | some (e, k, i) => ⟨e, k, i⟩
    | none => ⟨0, 0, 0⟩
/-- What is known of a world that was numbered out of a sheet that may be. -/
structure Numb (w : Wld) : Prop where
  fits : WldFits w
  names : ∀ l ∈ nmK w.names, ∀ s ∈ l, nameOK s = true ∧ s.length ≤ 9223372036854775807
  few : (nmK w.names).flatten.length ≤ 4096
  paths : w.names.paths.length = w.paths.length
  doors : w.names.doors.length = w.doors.length
  routes : w.names.routes.length = w.routes.length
  trips : w.names.trips.length = w.trips.length
  hazards : w.names.hazards.length = w.hazards.length
  nums : ∀ r ∈ w.routes, RteNum r
end Go.Ab
namespace Go.Proofs.YtelpibkbcljdlaaGreatDoor
open Go Go.Ab
def wrB (w : Wld) (xs : List Str) : BL := ((F_world_wrong, 2), .cells T_api_Wrong [.int .i64 0, .int .i64 0, .int .i64 0]) :: ((F_world_wrong, 4), .cells T_A7_P_S_string (kindsP (cWld1 w))) :: cbx w xs
theorem wrClo (w : Wld) (xs : List Str) : AllL (keyB (wrB w xs)) (wrB w xs) := ⟨rfl, rfl, rfl, rfl, cloX_row (l := jLr) (e := 0) (sz := 1) (Clo.map fS _), entA_cloD _, trivial⟩
def wrT (w : Wld) (j : Int) : TL := [(2, .ref (F_world_wrong, 2) 0), (3, .ref lcB 0), (4, .ref (F_world_wrong, 4) 0), (30, .agg (kindsP (cWld1 w))), (31, .int .i64 j)]
def wrT1 (w : Wld) (j : Int) (l : List Str) (i : Int) : TL := [(2, .ref (F_world_wrong, 2) 0), (3, .ref lcB 0), (4, .ref (F_world_wrong, 4) 0), (30, .agg (kindsP (cWld1 w))), (31, .int .i64 j), (5, .int .i64 j), (37, .lst 1 (l.map cS)), (38, .int .i64 (l.map cS).length), (39, .int .i64 i)]
theorem sub_wrB (w : Wld) {xs ys : List Str} (h : xs = ys) : SubL (wrB w ys) (wrB w xs) := by subst h; exact ⟨rfl, rfl, rfl, rfl, rfl, rfl, trivial⟩
theorem wrong_in1 (G : GlP) (hR : Res G) (w : Wld) (pre l : List Str) (j : Nat) (hn : ∀ s ∈ l, nameOK s = true ∧ s.length ≤ 9223372036854775807) (hf : (pre ++ l).length ≤ 4096) {K : AE → TL → BL → Prop}
    (h1 : dup1 pre l = none → K (.exit 2) ((40, .bool (decide ((l.length : Int) < (l.map cS).length))) :: wrT1 w j l l.length) (wrB w (pre ++ l)))
    (h2 : ∀ (i : Nat) (T : TL) (L : BL), dup1 pre l = some i → getT T 2 = .ref (F_world_wrong, 2) 0 → getL L (F_world_wrong, 2) = some (.cells T_api_Wrong [.int .i64 6, .int .i64 j, .int .i64 i]) → K .ret T L) :
    LoopOK Pg G fe_world_wrong [] (loopOf fn_world_wrong 1) (wrT1 w j l 0) (wrB w pre) K := by
  have hlw : (l.map cS).length = l.length := List.length_map _
  have hf' : l.length ≤ 4096 := by simp at hf; omega
  refine LoopOK.weak _ _ ?_ ?_ ?_ (LoopOK.ind (fun i : Nat => l.length - i) (fun i => wrT1 w j l i) (fun i => wrB w (pre ++ l.take i)) (fun i => i ≤ l.length ∧ ∀ k, k < i → (pre ++ l.take k).contains (l.getD k []) = false) ?_ 0 ⟨by omega, fun k hk => by omega⟩)
  · exact ⟨rfl, rfl, rfl, rfl, rfl, rfl, rfl, rfl, rfl, trivial⟩
  · exact sub_wrB w (by simp)
  · exact chk_mk ⟨rfl, rfl, rfl, rfl, rfl, rfl, rfl, rfl, rfl, trivial⟩ (wrClo _ _) rfl
  rintro i ⟨hi, hb⟩ IH
  refine LoopOK.round hTh hMx ?_
  conv => whnf
  refine cond_split (fun h => ?_) (fun hz => ?_)
  · have hlt := lt_of_dec h
    have hs := hn _ (List.getElem_mem hlt)
    have hlen : (pre ++ l.take i).length < 4096 := by simp at hf ⊢; omega
    conv => whnf
    refine IndexTo.at (map_at cS hlt) ?_
    conv => whnf
    refine CallTo.fnUpd (m_intern_Add G hR (pre ++ l.take i) l[i] hs.2 (by omega)) ⟨rfl, rfl, rfl, trivial⟩ rfl ?_
    by_cases hm : l[i] ∈ pre ++ l.take i
    · have he : addErr (pre ++ l.take i) l[i] = 6 := by simp only [addErr, hs.1, Bool.not_true, Bool.false_eq_true, if_false, if_pos hm]
      have hd : dup1 pre l = some i := find_range_hit hlt (by rw [getD_at [] hlt]; exact List.contains_iff_mem.2 hm) hb
      rw [he]
      conv => whnf
      exact h2 i _ _ hd rfl rfl
    · have he : addErr (pre ++ l.take i) l[i] = 0 := by
        simp only [addErr, hs.1, Bool.not_true, Bool.false_eq_true, if_false, if_neg hm]
        rw [if_neg (by omega)]
      have hx : addNext (pre ++ l.take i) l[i] = pre ++ l.take (i + 1) := by
        unfold addNext
        rw [he, if_pos rfl, List.take_succ_eq_append_getElem hlt, List.append_assoc]
      rw [he, hx]
      conv => whnf
      refine WrapTo.i64 (by omega) ?_
      conv => whnf
      refine LoopOK.weak _ _ ?_ ?_ ?_ (IH (i + 1) (by omega) ⟨by omega, fun k hk => by
        rcases Nat.lt_succ_iff_lt_or_eq.1 hk with h | rfl
        · exact hb k h
        · rw [getD_at [] hlt]; simpa using hm⟩)
      · exact ⟨rfl, rfl, rfl, rfl, rfl, rfl, rfl, rfl, rfl, trivial⟩
      · exact ⟨rfl, rfl, rfl, rfl, rfl, rfl, trivial⟩
      · exact chk_mk ⟨rfl, rfl, rfl, rfl, rfl, rfl, rfl, rfl, rfl, trivial⟩ (wrClo _ _) rfl
  · have hge := le_of_dec hz
    have : i = l.length := by omega
    subst this
    have hd : dup1 pre l = none := find_range_miss fun k hk => hb k hk
    have := h1 hd
    conv => whnf
    rw [List.take_length]
    exact this
def wrF : List AV := [.fn (.func F_world_checker_fine) [.ref lcB 0] [], .fn (.func F_world_checker_fine) [.ref lcB 0] [], .fn (.func F_world_checker_path) [.ref lcB 0] [], .fn (.func F_world_checker_door) [.ref lcB 0] [], .fn (.func F_world_checker_route) [.ref lcB 0] [], .fn (.func F_world_checker_trip) [.ref lcB 0] [], .fn (.func F_world_checker_hazard) [.ref lcB 0] []]
def wrT2 (j : Int) : TL := [(2, .ref (F_world_wrong, 2) 0), (4, .ref (F_world_wrong, 4) 0), (76, .agg wrF), (77, .int .i64 j)]
def wrT3 (j : Int) (fv : AV) (l : List Str) (i : Int) : TL := [(2, .ref (F_world_wrong, 2) 0), (4, .ref (F_world_wrong, 4) 0), (76, .agg wrF), (77, .int .i64 j), (11, .int .i64 j), (12, fv), (86, .int .i64 (l.map cS).length), (87, .int .i64 i)]
theorem wrong_in2 (G : GlP) (w : Wld) (xs l : List Str) (es : List Int) (fv : AV) (j : Nat) (hl : es.length = l.length) (hf : l.length ≤ 65536) (hD : cloB (keyB (wrB w xs)) fv = true)
    (hc : ∀ i, i < es.length → MeetsV Pg G fv [.int .i64 i] (cbx w xs) (.int .i64 (es.getD i 0)) []) {K : AE → TL → BL → Prop}
    (h1 : es.findIdx? (fun e => e != 0) = none → K (.exit 6) ((88, .bool (decide ((l.length : Int) < (l.map cS).length))) :: wrT3 j fv l l.length) (wrB w xs))
    (h2 : ∀ (i : Nat) (T : TL) (L : BL), es.findIdx? (fun e => e != 0) = some i → getT T 2 = .ref (F_world_wrong, 2) 0 → getL L (F_world_wrong, 2) = some (.cells T_api_Wrong [.int .i64 (es.getD i 0), .int .i64 j, .int .i64 i]) → K .ret T L) :
    LoopOK Pg G fe_world_wrong [] (loopOf fn_world_wrong 3) (wrT3 j fv l 0) (wrB w xs) K := by
  have hlw : (l.map cS).length = l.length := List.length_map _
  have hclo : ∀ i, cloChk [] (wrT3 j fv l i) (wrB w xs) = true := fun i => chk_mk ⟨rfl, rfl, rfl, rfl, rfl, hD, rfl, rfl, trivial⟩ (wrClo _ _) rfl
  refine LoopOK.weak _ _ ?_ ?_ (hclo _) (LoopOK.ind (fun i : Nat => l.length - i) (fun i => wrT3 j fv l i) (fun i => wrB w xs) (fun i => i ≤ l.length ∧ ∀ k, k < i → (es.getD k 0 != 0) = false) ?_ 0 ⟨by omega, fun k hk => by omega⟩)
  · exact ⟨rfl, rfl, rfl, rfl, rfl, rfl, rfl, rfl, trivial⟩
  · exact sub_wrB w rfl
  rintro i ⟨hi, hb⟩ IH
  refine LoopOK.round hTh hMx ?_
  conv => whnf
  refine cond_split (fun h => ?_) (fun hz => ?_)
  · have hlt := lt_of_dec h
    have hlt' : i < es.length := by omega
    conv => whnf
    refine CallTo.sees (hc i hlt') ⟨rfl, rfl, rfl, rfl, trivial⟩ ?_
    conv => whnf
    refine cond_split (fun h3 => ?_) (fun h3 => ?_)
    · have hd : es.findIdx? (fun e => e != 0) = some i := by
        rw [List.findIdx?_eq_some_iff_getElem]
        refine ⟨hlt', by rw [← getD_at 0 hlt']; exact h3, fun k hk => ?_⟩
        have := hb k hk
        rw [getD_at 0 (by omega)] at this
        simp [this]
      conv => whnf
      exact h2 i _ _ hd rfl rfl
    · conv => whnf
      refine WrapTo.i64 (by omega) ?_
      conv => whnf
      refine LoopOK.weak _ _ ?_ ?_ (hclo _) (IH (i + 1) (by omega) ⟨by omega, fun k hk => by
        rcases Nat.lt_succ_iff_lt_or_eq.1 hk with h | rfl
        · exact hb k h
        · exact h3⟩)
      · exact ⟨rfl, rfl, rfl, rfl, rfl, rfl, rfl, rfl, trivial⟩
      · exact sub_wrB w rfl
  · have hge := le_of_dec hz
    have : i = l.length := by omega
    subst this
    have hd : es.findIdx? (fun e => e != 0) = none := by
      rw [List.findIdx?_eq_none_iff]
      intro e he
      obtain ⟨k, hk, rfl⟩ := List.getElem_of_mem he
      have := hb k (by omega)
      rw [getD_at 0 hk] at this
      exact this
    have := h1 hd
    conv => whnf
    exact this
theorem fin_wrong {G : GlP} {F : FE} {fn : Func} {T : TL} {L : BL} (hΘ : TTok Pg F.Θ) (h44 : F.Θ T_api_Wrong = some ty_api_Wrong) (cs : Wrg) (hres : fn.results.toList = [.cell 2 T_api_Wrong]) {l : Lbl} (hT : getT T 2 = .ref l 0) (hL : getL L l = some (.cells T_api_Wrong (cWrg cs))) : Fin Pg G F [] fn (.agg (cWrg cs)) [] T L := by
  refine Fin.pure hΘ [.agg (cWrg cs)] ?_ rfl rfl
  rw [hres]
  simp only [resA, h44, hT, hL]
  rfl
theorem m_world_wrong (G : GlP) (hR : Res G) (w : Wld) (hN : Numb w) : Meets Pg G F_world_wrong [.pp (cWld w)] [] (.agg (cWrg (wrongS w))) [] := by
  have hfew := hN.few
  simp only [nmK, List.flatten_cons, List.flatten_nil, List.append_nil, List.length_append] at hfew
  have n1 := hN.names w.names.stops (by simp [nmK])
  have n2 := hN.names w.names.paths (by simp [nmK])
  have n3 := hN.names w.names.doors (by simp [nmK])
  have n4 := hN.names w.names.routes (by simp [nmK])
  have n5 := hN.names w.names.trips (by simp [nmK])
  have n6 := hN.names w.names.hazards (by simp [nmK])
  refine meets_pure (F := fe_world_wrong) hTh hMx func_world_wrong rfl call_world_wrong rfl rfl rfl ?_
  conv => whnf
  refine CallTo.fnNew (m_intern_New G) ⟨rfl, rfl, trivial⟩ ?_
  conv => whnf
  refine CallTo.fn (m_kinds G w) ?_
  conv => whnf
  refine LoopOK.conv (Conv.empOwnBox (F_intern_New, 12) 0 rfl rfl (F_intern_New, 1000) rfl T_string 1) ?_
  refine LoopOK.weak (wrT w 0) (wrB w []) ⟨rfl, rfl, rfl, rfl, rfl, trivial⟩ ⟨rfl, rfl, rfl, rfl, rfl, rfl, trivial⟩ (chk_mk ⟨rfl, rfl, rfl, rfl, rfl, trivial⟩ (wrClo _ _) rfl) ?_
  refine LoopOK.round hTh hMx ?_
  conv => whnf
  refine OpTo.at hTh rfl rfl rfl rfl rfl rfl rfl rfl (show 0 < 7 by omega) rfl ?_
  conv => whnf
  refine LoopOK.round hTh hMx ?_
  conv => whnf
  refine WrapTo.i64 (by omega) ?_
  conv => whnf
  refine LoopOK.weak (wrT w 1) (wrB w []) ⟨rfl, rfl, rfl, rfl, rfl, trivial⟩ ⟨rfl, rfl, rfl, rfl, rfl, rfl, trivial⟩ (chk_mk ⟨rfl, rfl, rfl, rfl, rfl, trivial⟩ (wrClo _ _) rfl) ?_
  refine LoopOK.round hTh hMx ?_
  conv => whnf
  refine OpTo.at hTh rfl rfl rfl rfl rfl rfl rfl rfl (show 1 < 7 by omega) rfl ?_
  conv => whnf
  refine LoopOK.weak (wrT1 w 1 w.names.stops 0) (wrB w []) ⟨rfl, rfl, rfl, rfl, rfl, rfl, rfl, rfl, rfl, trivial⟩ ⟨rfl, rfl, rfl, rfl, rfl, rfl, trivial⟩ (chk_mk ⟨rfl, rfl, rfl, rfl, rfl, rfl, rfl, rfl, rfl, trivial⟩ (wrClo _ _) rfl) ?_
  refine wrong_in1 G hR w [] w.names.stops 1 n1 (by simp only [List.length_append, List.length_nil]; omega) (fun hd1 => ?_) (fun i T L hi hT hL => ?_)
  rotate_left
  · have e : wrongS w = ⟨6, 1, i⟩ := by simp only [wrongS, dupS, nmK, dupK, hi]; rfl
    rw [e]
    exact fin_wrong hTh rfl _ rfl hT hL
  conv => whnf
  refine WrapTo.i64 (by omega) ?_
  conv => whnf
  refine LoopOK.weak (wrT w 2) (wrB w ([] ++ w.names.stops)) ⟨rfl, rfl, rfl, rfl, rfl, trivial⟩ ⟨rfl, rfl, rfl, rfl, rfl, rfl, trivial⟩ (chk_mk ⟨rfl, rfl, rfl, rfl, rfl, trivial⟩ (wrClo _ _) rfl) ?_
  refine LoopOK.round hTh hMx ?_
  conv => whnf
  refine OpTo.at hTh rfl rfl rfl rfl rfl rfl rfl rfl (show 2 < 7 by omega) rfl ?_
  conv => whnf
  refine LoopOK.weak (wrT1 w 2 w.names.paths 0) (wrB w ([] ++ w.names.stops)) ⟨rfl, rfl, rfl, rfl, rfl, rfl, rfl, rfl, rfl, trivial⟩ ⟨rfl, rfl, rfl, rfl, rfl, rfl, trivial⟩ (chk_mk ⟨rfl, rfl, rfl, rfl, rfl, rfl, rfl, rfl, rfl, trivial⟩ (wrClo _ _) rfl) ?_
  refine wrong_in1 G hR w ([] ++ w.names.stops) w.names.paths 2 n2 (by simp only [List.length_append, List.length_nil]; omega) (fun hd2 => ?_) (fun i T L hi hT hL => ?_)
  rotate_left
  · have e : wrongS w = ⟨6, 2, i⟩ := by simp only [wrongS, dupS, nmK, dupK, hd1, hi]; rfl
    rw [e]
    exact fin_wrong hTh rfl _ rfl hT hL
  conv => whnf
  refine WrapTo.i64 (by omega) ?_
  conv => whnf
  refine LoopOK.weak (wrT w 3) (wrB w (([] ++ w.names.stops) ++ w.names.paths)) ⟨rfl, rfl, rfl, rfl, rfl, trivial⟩ ⟨rfl, rfl, rfl, rfl, rfl, rfl, trivial⟩ (chk_mk ⟨rfl, rfl, rfl, rfl, rfl, trivial⟩ (wrClo _ _) rfl) ?_
  refine LoopOK.round hTh hMx ?_
  conv => whnf
  refine OpTo.at hTh rfl rfl rfl rfl rfl rfl rfl rfl (show 3 < 7 by omega) rfl ?_
  conv => whnf
  refine LoopOK.weak (wrT1 w 3 w.names.doors 0) (wrB w (([] ++ w.names.stops) ++ w.names.paths)) ⟨rfl, rfl, rfl, rfl, rfl, rfl, rfl, rfl, rfl, trivial⟩ ⟨rfl, rfl, rfl, rfl, rfl, rfl, trivial⟩ (chk_mk ⟨rfl, rfl, rfl, rfl, rfl, rfl, rfl, rfl, rfl, trivial⟩ (wrClo _ _) rfl) ?_
  refine wrong_in1 G hR w (([] ++ w.names.stops) ++ w.names.paths) w.names.doors 3 n3 (by simp only [List.length_append, List.length_nil]; omega) (fun hd3 => ?_) (fun i T L hi hT hL => ?_)
  rotate_left
  · have e : wrongS w = ⟨6, 3, i⟩ := by simp only [wrongS, dupS, nmK, dupK, hd1, hd2, hi]; rfl
    rw [e]
    exact fin_wrong hTh rfl _ rfl hT hL
  conv => whnf
  refine WrapTo.i64 (by omega) ?_
  conv => whnf
  refine LoopOK.weak (wrT w 4) (wrB w ((([] ++ w.names.stops) ++ w.names.paths) ++ w.names.doors)) ⟨rfl, rfl, rfl, rfl, rfl, trivial⟩ ⟨rfl, rfl, rfl, rfl, rfl, rfl, trivial⟩ (chk_mk ⟨rfl, rfl, rfl, rfl, rfl, trivial⟩ (wrClo _ _) rfl) ?_
  refine LoopOK.round hTh hMx ?_
  conv => whnf
  refine OpTo.at hTh rfl rfl rfl rfl rfl rfl rfl rfl (show 4 < 7 by omega) rfl ?_
  conv => whnf
  refine LoopOK.weak (wrT1 w 4 w.names.routes 0) (wrB w ((([] ++ w.names.stops) ++ w.names.paths) ++ w.names.doors)) ⟨rfl, rfl, rfl, rfl, rfl, rfl, rfl, rfl, rfl, trivial⟩ ⟨rfl, rfl, rfl, rfl, rfl, rfl, trivial⟩ (chk_mk ⟨rfl, rfl, rfl, rfl, rfl, rfl, rfl, rfl, rfl, trivial⟩ (wrClo _ _) rfl) ?_
  refine wrong_in1 G hR w ((([] ++ w.names.stops) ++ w.names.paths) ++ w.names.doors) w.names.routes 4 n4 (by simp only [List.length_append, List.length_nil]; omega) (fun hd4 => ?_) (fun i T L hi hT hL => ?_)
  rotate_left
  · have e : wrongS w = ⟨6, 4, i⟩ := by simp only [wrongS, dupS, nmK, dupK, hd1, hd2, hd3, hi]; rfl
    rw [e]
    exact fin_wrong hTh rfl _ rfl hT hL
  conv => whnf
  refine WrapTo.i64 (by omega) ?_
  conv => whnf
  refine LoopOK.weak (wrT w 5) (wrB w (((([] ++ w.names.stops) ++ w.names.paths) ++ w.names.doors) ++ w.names.routes)) ⟨rfl, rfl, rfl, rfl, rfl, trivial⟩ ⟨rfl, rfl, rfl, rfl, rfl, rfl, trivial⟩ (chk_mk ⟨rfl, rfl, rfl, rfl, rfl, trivial⟩ (wrClo _ _) rfl) ?_
  refine LoopOK.round hTh hMx ?_
  conv => whnf
  refine OpTo.at hTh rfl rfl rfl rfl rfl rfl rfl rfl (show 5 < 7 by omega) rfl ?_
  conv => whnf
  refine LoopOK.weak (wrT1 w 5 w.names.trips 0) (wrB w (((([] ++ w.names.stops) ++ w.names.paths) ++ w.names.doors) ++ w.names.routes)) ⟨rfl, rfl, rfl, rfl, rfl, rfl, rfl, rfl, rfl, trivial⟩ ⟨rfl, rfl, rfl, rfl, rfl, rfl, trivial⟩ (chk_mk ⟨rfl, rfl, rfl, rfl, rfl, rfl, rfl, rfl, rfl, trivial⟩ (wrClo _ _) rfl) ?_
  refine wrong_in1 G hR w (((([] ++ w.names.stops) ++ w.names.paths) ++ w.names.doors) ++ w.names.routes) w.names.trips 5 n5 (by simp only [List.length_append, List.length_nil]; omega) (fun hd5 => ?_) (fun i T L hi hT hL => ?_)
  rotate_left
  · have e : wrongS w = ⟨6, 5, i⟩ := by simp only [wrongS, dupS, nmK, dupK, hd1, hd2, hd3, hd4, hi]; rfl
    rw [e]
    exact fin_wrong hTh rfl _ rfl hT hL
  conv => whnf
  refine WrapTo.i64 (by omega) ?_
  conv => whnf
  refine LoopOK.weak (wrT w 6) (wrB w ((((([] ++ w.names.stops) ++ w.names.paths) ++ w.names.doors) ++ w.names.routes) ++ w.names.trips)) ⟨rfl, rfl, rfl, rfl, rfl, trivial⟩ ⟨rfl, rfl, rfl, rfl, rfl, rfl, trivial⟩ (chk_mk ⟨rfl, rfl, rfl, rfl, rfl, trivial⟩ (wrClo _ _) rfl) ?_
  refine LoopOK.round hTh hMx ?_
  conv => whnf
  refine OpTo.at hTh rfl rfl rfl rfl rfl rfl rfl rfl (show 6 < 7 by omega) rfl ?_
  conv => whnf
  refine LoopOK.weak (wrT1 w 6 w.names.hazards 0) (wrB w ((((([] ++ w.names.stops) ++ w.names.paths) ++ w.names.doors) ++ w.names.routes) ++ w.names.trips)) ⟨rfl, rfl, rfl, rfl, rfl, rfl, rfl, rfl, rfl, trivial⟩ ⟨rfl, rfl, rfl, rfl, rfl, rfl, trivial⟩ (chk_mk ⟨rfl, rfl, rfl, rfl, rfl, rfl, rfl, rfl, rfl, trivial⟩ (wrClo _ _) rfl) ?_
  refine wrong_in1 G hR w ((((([] ++ w.names.stops) ++ w.names.paths) ++ w.names.doors) ++ w.names.routes) ++ w.names.trips) w.names.hazards 6 n6 (by simp only [List.length_append, List.length_nil]; omega) (fun hd6 => ?_) (fun i T L hi hT hL => ?_)
  rotate_left
  · have e : wrongS w = ⟨6, 6, i⟩ := by simp only [wrongS, dupS, nmK, dupK, hd1, hd2, hd3, hd4, hd5, hi]; rfl
    rw [e]
    exact fin_wrong hTh rfl _ rfl hT hL
  conv => whnf
  refine WrapTo.i64 (by omega) ?_
  conv => whnf
  have hdup : dupS w.names = none := by simp only [dupS, nmK, dupK, hd1, hd2, hd3, hd4, hd5, hd6]
  refine LoopOK.weak (wrT w 7) (wrB w (((((([] ++ w.names.stops) ++ w.names.paths) ++ w.names.doors) ++ w.names.routes) ++ w.names.trips) ++ w.names.hazards)) ⟨rfl, rfl, rfl, rfl, rfl, trivial⟩ ⟨rfl, rfl, rfl, rfl, rfl, rfl, trivial⟩ (chk_mk ⟨rfl, rfl, rfl, rfl, rfl, trivial⟩ (wrClo _ _) rfl) ?_
  refine LoopOK.round hTh hMx ?_
  conv => whnf
  generalize (((((([] ++ w.names.stops) ++ w.names.paths) ++ w.names.doors) ++ w.names.routes) ++ w.names.trips) ++ w.names.hazards) = xs
  refine LoopOK.weak (wrT2 0) (wrB w xs) ⟨rfl, rfl, rfl, rfl, trivial⟩ ⟨rfl, rfl, rfl, rfl, rfl, rfl, trivial⟩ (chk_mk ⟨rfl, rfl, rfl, rfl, trivial⟩ (wrClo _ _) rfl) ?_
  refine LoopOK.round hTh hMx ?_
  conv => whnf
  refine OpTo.at hTh rfl rfl rfl rfl rfl rfl rfl rfl (show 0 < 7 by omega) rfl ?_
  conv => whnf
  refine OpTo.arrAt hTh rfl rfl rfl rfl rfl rfl (show 0 < 7 by omega) ?_
  conv => whnf
  refine LoopOK.round hTh hMx ?_
  conv => whnf
  refine WrapTo.i64 (by omega) ?_
  conv => whnf
  refine LoopOK.weak (wrT2 1) (wrB w xs) ⟨rfl, rfl, rfl, rfl, trivial⟩ ⟨rfl, rfl, rfl, rfl, rfl, rfl, trivial⟩ (chk_mk ⟨rfl, rfl, rfl, rfl, trivial⟩ (wrClo _ _) rfl) ?_
  refine LoopOK.round hTh hMx ?_
  conv => whnf
  refine OpTo.at hTh rfl rfl rfl rfl rfl rfl rfl rfl (show 1 < 7 by omega) rfl ?_
  conv => whnf
  refine OpTo.arrAt hTh rfl rfl rfl rfl rfl rfl (show 1 < 7 by omega) ?_
  conv => whnf
  refine LoopOK.weak (wrT3 1 (wrF.getD 1 .dead) w.names.stops 0) (wrB w xs) ⟨rfl, rfl, rfl, rfl, rfl, rfl, rfl, rfl, trivial⟩ ⟨rfl, rfl, rfl, rfl, rfl, rfl, trivial⟩ (chk_mk ⟨rfl, rfl, rfl, rfl, rfl, rfl, rfl, rfl, trivial⟩ (wrClo _ _) rfl) ?_
  refine wrong_in2 G w xs w.names.stops (List.replicate w.names.stops.length 0) _ 1 (by simp) (by omega) rfl (fun i hi => by
                 rw [show (List.replicate w.names.stops.length (0 : Int)).getD i 0 = 0 from by simp at hi; simp [List.getD, hi]]
                 exact MeetsV.of (m_checker_fine G w xs i)) (fun hf1 => ?_) (fun i T L hi hT hL => ?_)
  rotate_left
  · rw [List.findIdx?_eq_some_iff_getElem] at hi
    obtain ⟨h1, h2, _⟩ := hi
    simp at h2
  conv => whnf
  refine WrapTo.i64 (by omega) ?_
  conv => whnf
  refine LoopOK.weak (wrT2 2) (wrB w xs) ⟨rfl, rfl, rfl, rfl, trivial⟩ ⟨rfl, rfl, rfl, rfl, rfl, rfl, trivial⟩ (chk_mk ⟨rfl, rfl, rfl, rfl, trivial⟩ (wrClo _ _) rfl) ?_
  refine LoopOK.round hTh hMx ?_
  conv => whnf
  refine OpTo.at hTh rfl rfl rfl rfl rfl rfl rfl rfl (show 2 < 7 by omega) rfl ?_
  conv => whnf
  refine OpTo.arrAt hTh rfl rfl rfl rfl rfl rfl (show 2 < 7 by omega) ?_
  conv => whnf
  refine LoopOK.weak (wrT3 2 (wrF.getD 2 .dead) w.names.paths 0) (wrB w xs) ⟨rfl, rfl, rfl, rfl, rfl, rfl, rfl, rfl, trivial⟩ ⟨rfl, rfl, rfl, rfl, rfl, rfl, trivial⟩ (chk_mk ⟨rfl, rfl, rfl, rfl, rfl, rfl, rfl, rfl, trivial⟩ (wrClo _ _) rfl) ?_
  refine wrong_in2 G w xs w.names.paths (w.paths.map pathE) _ 2 (by simp [hN.paths]) (by omega) rfl (fun i hi => by
                 have hi' : i < w.paths.length := by simpa using hi
                 rw [show (w.paths.map pathE).getD i 0 = pathE w.paths[i] from by simp [List.getD, hi']]
                 exact MeetsV.of (m_checker_path G w xs i hi')) (fun hf2 => ?_) (fun i T L hi hT hL => ?_)
  rotate_left
  · have e : wrongS w = ⟨(w.paths.map pathE).getD i 0, 2, i⟩ := by simp only [wrongS, hdup, firstS, errAll, errKs, List.findIdx?_nil, hf1, hi]; rfl
    rw [e]
    exact fin_wrong hTh rfl _ rfl hT hL
  conv => whnf
  refine WrapTo.i64 (by omega) ?_
  conv => whnf
  refine LoopOK.weak (wrT2 3) (wrB w xs) ⟨rfl, rfl, rfl, rfl, trivial⟩ ⟨rfl, rfl, rfl, rfl, rfl, rfl, trivial⟩ (chk_mk ⟨rfl, rfl, rfl, rfl, trivial⟩ (wrClo _ _) rfl) ?_
  refine LoopOK.round hTh hMx ?_
  conv => whnf
  refine OpTo.at hTh rfl rfl rfl rfl rfl rfl rfl rfl (show 3 < 7 by omega) rfl ?_
  conv => whnf
  refine OpTo.arrAt hTh rfl rfl rfl rfl rfl rfl (show 3 < 7 by omega) ?_
  conv => whnf
  refine LoopOK.weak (wrT3 3 (wrF.getD 3 .dead) w.names.doors 0) (wrB w xs) ⟨rfl, rfl, rfl, rfl, rfl, rfl, rfl, rfl, trivial⟩ ⟨rfl, rfl, rfl, rfl, rfl, rfl, trivial⟩ (chk_mk ⟨rfl, rfl, rfl, rfl, rfl, rfl, rfl, rfl, trivial⟩ (wrClo _ _) rfl) ?_
  refine wrong_in2 G w xs w.names.doors (w.doors.map (doorE w.hor)) _ 3 (by simp [hN.doors]) (by omega) rfl (fun i hi => by
                 have hi' : i < w.doors.length := by simpa using hi
                 rw [show (w.doors.map (doorE w.hor)).getD i 0 = doorE w.hor w.doors[i] from by simp [List.getD, hi']]
                 exact MeetsV.of (m_checker_door G w xs i hi')) (fun hf3 => ?_) (fun i T L hi hT hL => ?_)
  rotate_left
  · have e : wrongS w = ⟨(w.doors.map (doorE w.hor)).getD i 0, 3, i⟩ := by simp only [wrongS, hdup, firstS, errAll, errKs, List.findIdx?_nil, hf1, hf2, hi]; rfl
    rw [e]
    exact fin_wrong hTh rfl _ rfl hT hL
  conv => whnf
  refine WrapTo.i64 (by omega) ?_
  conv => whnf
  refine LoopOK.weak (wrT2 4) (wrB w xs) ⟨rfl, rfl, rfl, rfl, trivial⟩ ⟨rfl, rfl, rfl, rfl, rfl, rfl, trivial⟩ (chk_mk ⟨rfl, rfl, rfl, rfl, trivial⟩ (wrClo _ _) rfl) ?_
  refine LoopOK.round hTh hMx ?_
  conv => whnf
  refine OpTo.at hTh rfl rfl rfl rfl rfl rfl rfl rfl (show 4 < 7 by omega) rfl ?_
  conv => whnf
  refine OpTo.arrAt hTh rfl rfl rfl rfl rfl rfl (show 4 < 7 by omega) ?_
  conv => whnf
  refine LoopOK.weak (wrT3 4 (wrF.getD 4 .dead) w.names.routes 0) (wrB w xs) ⟨rfl, rfl, rfl, rfl, rfl, rfl, rfl, rfl, trivial⟩ ⟨rfl, rfl, rfl, rfl, rfl, rfl, trivial⟩ (chk_mk ⟨rfl, rfl, rfl, rfl, rfl, rfl, rfl, rfl, trivial⟩ (wrClo _ _) rfl) ?_
  refine wrong_in2 G w xs w.names.routes (w.routes.map routeE) _ 4 (by simp [hN.routes]) (by omega) rfl (fun i hi => by
                 have hi' : i < w.routes.length := by simpa using hi
                 rw [show (w.routes.map routeE).getD i 0 = routeE w.routes[i] from by simp [List.getD, hi']]
                 exact MeetsV.of (m_checker_route G w xs i hi' (hN.nums _ (List.getElem_mem hi')))) (fun hf4 => ?_) (fun i T L hi hT hL => ?_)
  rotate_left
  · have e : wrongS w = ⟨(w.routes.map routeE).getD i 0, 4, i⟩ := by simp only [wrongS, hdup, firstS, errAll, errKs, List.findIdx?_nil, hf1, hf2, hf3, hi]; rfl
    rw [e]
    exact fin_wrong hTh rfl _ rfl hT hL
  conv => whnf
  refine WrapTo.i64 (by omega) ?_
  conv => whnf
  refine LoopOK.weak (wrT2 5) (wrB w xs) ⟨rfl, rfl, rfl, rfl, trivial⟩ ⟨rfl, rfl, rfl, rfl, rfl, rfl, trivial⟩ (chk_mk ⟨rfl, rfl, rfl, rfl, trivial⟩ (wrClo _ _) rfl) ?_
  refine LoopOK.round hTh hMx ?_
  conv => whnf
  refine OpTo.at hTh rfl rfl rfl rfl rfl rfl rfl rfl (show 5 < 7 by omega) rfl ?_
  conv => whnf
  refine OpTo.arrAt hTh rfl rfl rfl rfl rfl rfl (show 5 < 7 by omega) ?_
  conv => whnf
  refine LoopOK.weak (wrT3 5 (wrF.getD 5 .dead) w.names.trips 0) (wrB w xs) ⟨rfl, rfl, rfl, rfl, rfl, rfl, rfl, rfl, trivial⟩ ⟨rfl, rfl, rfl, rfl, rfl, rfl, trivial⟩ (chk_mk ⟨rfl, rfl, rfl, rfl, rfl, rfl, rfl, rfl, trivial⟩ (wrClo _ _) rfl) ?_
  refine wrong_in2 G w xs w.names.trips (w.trips.map tripE) _ 5 (by simp [hN.trips]) (by omega) rfl (fun i hi => by
                 have hi' : i < w.trips.length := by simpa using hi
                 rw [show (w.trips.map tripE).getD i 0 = tripE w.trips[i] from by simp [List.getD, hi']]
                 exact MeetsV.of (m_checker_trip G w xs i hi')) (fun hf5 => ?_) (fun i T L hi hT hL => ?_)
  rotate_left
  · have e : wrongS w = ⟨(w.trips.map tripE).getD i 0, 5, i⟩ := by simp only [wrongS, hdup, firstS, errAll, errKs, List.findIdx?_nil, hf1, hf2, hf3, hf4, hi]; rfl
    rw [e]
    exact fin_wrong hTh rfl _ rfl hT hL
  conv => whnf
  refine WrapTo.i64 (by omega) ?_
  conv => whnf
  refine LoopOK.weak (wrT2 6) (wrB w xs) ⟨rfl, rfl, rfl, rfl, trivial⟩ ⟨rfl, rfl, rfl, rfl, rfl, rfl, trivial⟩ (chk_mk ⟨rfl, rfl, rfl, rfl, trivial⟩ (wrClo _ _) rfl) ?_
  refine LoopOK.round hTh hMx ?_
  conv => whnf
  refine OpTo.at hTh rfl rfl rfl rfl rfl rfl rfl rfl (show 6 < 7 by omega) rfl ?_
  conv => whnf
  refine OpTo.arrAt hTh rfl rfl rfl rfl rfl rfl (show 6 < 7 by omega) ?_
  conv => whnf
  refine LoopOK.weak (wrT3 6 (wrF.getD 6 .dead) w.names.hazards 0) (wrB w xs) ⟨rfl, rfl, rfl, rfl, rfl, rfl, rfl, rfl, trivial⟩ ⟨rfl, rfl, rfl, rfl, rfl, rfl, trivial⟩ (chk_mk ⟨rfl, rfl, rfl, rfl, rfl, rfl, rfl, rfl, trivial⟩ (wrClo _ _) rfl) ?_
  refine wrong_in2 G w xs w.names.hazards (w.hazards.map (hazE w.hor)) _ 6 (by simp [hN.hazards]) (by omega) rfl (fun i hi => by
                 have hi' : i < w.hazards.length := by simpa using hi
                 rw [show (w.hazards.map (hazE w.hor)).getD i 0 = hazE w.hor w.hazards[i] from by simp [List.getD, hi']]
                 exact MeetsV.of (m_checker_hazard G w xs i hi')) (fun hf6 => ?_) (fun i T L hi hT hL => ?_)
  rotate_left
  · have e : wrongS w = ⟨(w.hazards.map (hazE w.hor)).getD i 0, 6, i⟩ := by simp only [wrongS, hdup, firstS, errAll, errKs, List.findIdx?_nil, hf1, hf2, hf3, hf4, hf5, hi]; rfl
    rw [e]
    exact fin_wrong hTh rfl _ rfl hT hL
  conv => whnf
  refine WrapTo.i64 (by omega) ?_
  conv => whnf
  refine LoopOK.weak (wrT2 7) (wrB w xs) ⟨rfl, rfl, rfl, rfl, trivial⟩ ⟨rfl, rfl, rfl, rfl, rfl, rfl, trivial⟩ (chk_mk ⟨rfl, rfl, rfl, rfl, trivial⟩ (wrClo _ _) rfl) ?_
  refine LoopOK.round hTh hMx ?_
  conv => whnf
  have e : wrongS w = ⟨0, 0, 0⟩ := by simp only [wrongS, hdup, firstS, errAll, errKs, List.findIdx?_nil, hf1, hf2, hf3, hf4, hf5, hf6]
  rw [e]
  exact fin_wrong hTh rfl _ rfl rfl rfl
end Go.Proofs.YtelpibkbcljdlaaGreatDoor
/- Worlds: made out of a sheet, by the program. -/
set_option linter.unusedVariables false
set_option linter.unusedSimpArgs false
set_option maxRecDepth 10000
namespace Go.Ab
def nms0 : Nms := ⟨[], [], [], [], [], []⟩
def wld0 : Wld := ⟨0, nms0, [], [], [], [], []⟩
def makeW (x : Sht) : Wld := if shtErr x = 0 ∧ (wrongS (numW x)).err = 0 then numW x else wld0
def makeE (x : Sht) : Wrg := if shtErr x = 0 then (if (wrongS (numW x)).err = 0 then ⟨0, 0, 0⟩ else wrongS (numW x)) else ⟨shtErr x, 0, 0⟩
/-- The cells of a world that is nothing, as they are laid. -/
abbrev zWld : List AV := [.int .i64 0, .emp, .emp, .emp, .emp, .emp, .emp, .emp, .emp, .emp, .emp, .emp]
theorem le_zWld {Z : ZL} : LeL Z zWld (cWld wld0) := .cons (.refl _) (.cons (.emp 1) (.cons (.emp 1) (.cons (.emp 1) (.cons (.emp 1) (.cons (.emp 1) (.cons (.emp 1) (.cons (.emp 3) (.cons (.emp 6) (.cons (.emp 3) (.cons (.emp 4) (.cons (.emp 5) (.refl _))))))))))))
theorem not_any {α : Type} {p : α → Bool} {xs : List α} (h : ¬ xs.any p = true) : ∀ x ∈ xs, p x = false := by
  intro x hx
  simp only [Bool.not_eq_true] at h
  rw [List.any_eq_false] at h
  simpa using h x hx
structure ShtOK (x : Sht) : Prop where
  few : tooLong x = false
  names : ∀ s ∈ namesL x, nameOK s = true
  numbers : ∀ n ∈ numbersL x, tickOK n = true
  routes : ∀ r ∈ x.routes, rteOK r = true
theorem shtOK_of {x : Sht} (h : shtErr x = 0) : ShtOK x := by
  unfold shtErr at h
  split at h
  · cases h
  · rename_i h1
    split at h
    · cases h
    · rename_i h2
      split at h
      · cases h
      · rename_i h3
        split at h
        · cases h
        · rename_i h4
          refine ⟨by simpa using h1, fun s hs => ?_, fun n hn => ?_, fun r hr => ?_⟩
          · simpa using not_any h2 s hs
          · simpa using not_any h3 n hn
          · simpa using not_any h4 r hr
theorem shtErr_zero {x : Sht} (h : ShtOK x) : shtErr x = 0 := by
  unfold shtErr
  rw [if_neg (by simp [h.few]), if_neg, if_neg, if_neg]
  · rw [List.any_eq_true]; rintro ⟨r, hr, h1⟩; simp [h.routes r hr] at h1
  · rw [List.any_eq_true]; rintro ⟨r, hr, h1⟩; simp [h.numbers r hr] at h1
  · rw [List.any_eq_true]; rintro ⟨r, hr, h1⟩; simp [h.names r hr] at h1
theorem placeS_low (l : List Str) (s : Str) : -1 ≤ placeS l s := by
  unfold placeS fidx
  split <;> omega
theorem nameOK_len {s : Str} (h : nameOK s = true) : s.length ≤ 9223372036854775807 := by
  unfold nameOK at h
  simp only [Bool.and_eq_true] at h
  have h := h.1
  unfold wordOK at h
  split at h
  · cases h
  · simp only [Bool.and_eq_true, decide_eq_true_eq] at h
    have := h.1.1
    simp
    omega
theorem numb_of {x : Sht} (hx : ShtFits x) (h : ShtOK x) : Numb (numW x) := by
  have hf := h.few
  simp only [tooLong, Bool.or_eq_false_iff, decide_eq_false_iff_not, Nat.not_lt] at hf
  obtain ⟨⟨⟨⟨⟨a1, a2⟩, a3⟩, a4⟩, a5⟩, a6⟩ := hf
  have key : ∀ s ∈ namesL x, nameOK s = true ∧ s.length ≤ 9223372036854775807 := fun s hs => ⟨h.names s hs, nameOK_len (h.names s hs)⟩
  have hrt : ∀ r ∈ x.routes, 2 ≤ r.stops.length ∧ r.stops.length ≤ 32 ∧ r.rides.length + 1 = r.stops.length ∧ r.stays.length + 2 = r.stops.length := fun r hr => by
    have := h.routes r hr
    simp only [rteOK, Bool.and_eq_true, decide_eq_true_eq, beq_iff_eq] at this
    omega
  refine ⟨⟨⟨?_, ?_, ?_, ?_, ?_, ?_⟩, ?_, ?_, ?_, ?_, ?_, ?_⟩, ?_, ?_, ?_, ?_, ?_, ?_, ?_, ?_⟩
  · simp only [numW, nmsOf]; omega
  · simp only [numW, nmsOf, List.length_map]; omega
  · simp only [numW, nmsOf, List.length_map]; omega
  · simp only [numW, nmsOf, List.length_map]; omega
  · simp only [numW, nmsOf, List.length_map]; omega
  · simp only [numW, nmsOf, List.length_map]; omega
  · simp only [numW, List.length_map]; omega
  · simp only [numW, List.length_map]; omega
  · simp only [numW, List.length_map]; omega
  · simp only [numW, List.length_map]; omega
  · simp only [numW, List.length_map]; omega
  · intro r hr
    simp only [numW, List.mem_map] at hr
    obtain ⟨q, hq, rfl⟩ := hr
    have := hrt q hq
    exact ⟨by simp only [rteO, List.length_map]; omega, by simp only [rteO]; omega, by simp only [rteO]; omega⟩
  · intro l hl s hs
    refine key s ?_
    simp only [numW, nmsOf, nmK, List.mem_cons, List.not_mem_nil, or_false] at hl
    simp only [namesL, List.mem_append, List.mem_flatMap]
    rcases hl with rfl | rfl | rfl | rfl | rfl | rfl
    · exact .inl (.inl (.inl (.inl (.inl hs))))
    all_goals
      rw [List.mem_map] at hs
      obtain ⟨q, hq, rfl⟩ := hs
    · exact .inl (.inl (.inl (.inl (.inr ⟨q, hq, by simp [nmPth]⟩))))
    · exact .inl (.inl (.inl (.inr ⟨q, hq, by simp [nmDor]⟩)))
    · exact .inl (.inl (.inr ⟨q, hq, by simp [nmRte]⟩))
    · exact .inl (.inr ⟨q, hq, by simp [nmTrp]⟩)
    · exact .inr ⟨q, hq, by simp [nmHzd]⟩
  · simp only [numW, nmsOf, nmK, List.flatten_cons, List.flatten_nil, List.append_nil, List.length_append, List.length_map]; omega
  · simp [numW, nmsOf]
  · simp [numW, nmsOf]
  · simp [numW, nmsOf]
  · simp [numW, nmsOf]
  · simp [numW, nmsOf]
  · intro r hr
    simp only [numW, List.mem_map] at hr
    obtain ⟨q, hq, rfl⟩ := hr
    have := hrt q hq
    refine ⟨fun s hs => ?_, by simp only [rteO, List.length_map]; omega, by simp only [rteO, List.length_map]; omega⟩
    simp only [rteO, List.mem_map] at hs
    obtain ⟨n, _, rfl⟩ := hs
    exact placeS_low _ _
end Go.Ab
namespace Go.Proofs.YtelpibkbcljdlaaGreatDoor
open Go Go.Ab
theorem fin_make {G : GlP} {F : FE} {fn : Func} {T : TL} {L : BL} (hΘ : TTok Pg F.Θ) (hw : F.Θ T_api_World = some ty_api_World) (he : F.Θ T_api_Wrong = some ty_api_Wrong) (w : Wld) (e : Wrg) (cs : List AV) (hres : fn.results.toList = [.cell 2 T_api_World, .cell 3 T_api_Wrong]) {l l' : Lbl}
    (hT : getT T 2 = .ref l 0) (hT' : getT T 3 = .ref l' 0) (hL : getL L l = some (.cells T_api_World cs)) (hL' : getL L l' = some (.cells T_api_Wrong (cWrg e))) (hne : lbeq l l' = false) (hc : LeL [] cs (cWld w)) :
    Fin Pg G F [] fn (.tup [.agg (cWld w), .agg (cWrg e)]) [] T L := by
  have hne' : lbeq l' l = false := lbeq_false.2 fun h => lbeq_false.1 hne h.symm
  refine Fin.less [] [(2, .ref l 0), (3, .ref l' 0)] [(l, .cells T_api_World (cWld w)), (l', .cells T_api_Wrong (cWrg e))] ⟨by rw [hT]; exact .refl _, by rw [hT']; exact .refl _, trivial⟩ ⟨⟨_, hL, .cells hc⟩, ⟨_, hL', .refl _⟩, trivial⟩ trivial
    (chk_mk ⟨by simp [cloB, keyB, getL, lbeq_iff.2 rfl], by simp [cloB, keyB, getL, lbeq_iff.2 rfl, hne], trivial⟩ ⟨rfl, rfl, trivial⟩ rfl) ?_
  refine Fin.pure hΘ [.agg (cWld w), .agg (cWrg e)] ?_ rfl rfl
  have L2 : getL [(l, .cells T_api_World (cWld w)), (l', .cells T_api_Wrong (cWrg e))] l = some (.cells T_api_World (cWld w)) := by simp [getL, lbeq_iff.2 rfl]
  have L3 : getL [(l, .cells T_api_World (cWld w)), (l', .cells T_api_Wrong (cWrg e))] l' = some (.cells T_api_Wrong (cWrg e)) := by simp [getL, hne, lbeq_iff.2 rfl]
  have g2 : getT [(2, .ref l 0), (3, .ref l' 0)] 2 = .ref l 0 := rfl
  have g3 : getT [(2, .ref l 0), (3, .ref l' 0)] 3 = .ref l' 0 := rfl
  have t1 : takeV ty_api_Wrong ((cWrg e).drop 0) = some (.agg (cWrg e)) := rfl
  have t2 : takeV ty_api_World ((cWld w).drop 0) = some (.agg (cWld w)) := rfl
  rw [hres]
  simp only [resA, hw, he, g2, g3, L3, t1]
  simp only [L2, t2]
theorem m_world_Make (G : GlP) (hR : Res G) (x : Sht) (hx : ShtFits x) : Meets Pg G F_world_Make [.agg (cSht x)] [] (.tup [.agg (cWld (makeW x)), .agg (cWrg (makeE x))]) [] := by
  refine meets_pure (F := { fe_world_Make with stops := [5] }) hTh hMx func_world_Make rfl call_world_Make rfl rfl rfl ?_
  conv => whnf
  refine CallTo.fn (m_sheet_Check G hR x hx) ?_
  conv => whnf
  refine cond_split (fun h => ?_) (fun h => ?_)
  · have h' : shtErr x ≠ 0 := by simpa using h
    have e1 : makeW x = wld0 := by simp [makeW, h']
    have e2 : makeE x = ⟨shtErr x, 0, 0⟩ := by simp [makeE, h']
    rw [e1, e2]
    conv => whnf
    exact fin_make hTh rfl rfl wld0 ⟨shtErr x, 0, 0⟩ zWld rfl rfl rfl rfl rfl rfl le_zWld
  have h' : shtErr x = 0 := by simpa using h
  have hN := numb_of hx (shtOK_of h')
  conv => whnf
  refine CallTo.fn (m_numbered G x hx) ?_
  conv => whnf
  refine CodeTo.less [((F_world_Make, 5), .cells T_api_World (cWld (numW x)))] [(2, .ref (F_world_Make, 2) 0), (3, .ref (F_world_Make, 3) 0), (5, .pp (cWld (numW x)))] [((F_world_Make, 2), .cells T_api_World zWld), ((F_world_Make, 3), .cells T_api_Wrong (cWrg ⟨0, 0, 0⟩))]
    ⟨.refl _, .refl _, .ref List.mem_cons_self, trivial⟩ ⟨⟨_, rfl, .refl _⟩, ⟨_, rfl, .refl _⟩, trivial⟩ ⟨rfl, rfl, rfl, trivial⟩ rfl ?_
  refine CodeTo.go hTh hMx ?_
  conv => whnf
  refine CallTo.fn (m_world_wrong G hR (numW x) hN) ?_
  conv => whnf
  refine cond_split (fun h2 => ?_) (fun h2 => ?_)
  · have h2' : (wrongS (numW x)).err ≠ 0 := by simpa using h2
    have e1 : makeW x = wld0 := by simp [makeW, h2']
    have e2 : makeE x = wrongS (numW x) := by simp [makeE, h', h2']
    rw [e1, e2]
    conv => whnf
    refine ⟨by kernel_rfl, ?_⟩
    conv => whnf
    exact fin_make hTh rfl rfl wld0 (wrongS (numW x)) zWld rfl rfl rfl rfl rfl rfl le_zWld
  have h2' : (wrongS (numW x)).err = 0 := by simpa using h2
  have e1 : makeW x = numW x := by simp [makeW, h', h2']
  have e2 : makeE x = ⟨0, 0, 0⟩ := by simp [makeE, h', h2']
  rw [e1, e2]
  conv => whnf
  exact fin_make hTh rfl rfl (numW x) ⟨0, 0, 0⟩ (cWld (numW x)) rfl rfl rfl rfl rfl rfl (.refl _)
end Go.Proofs.YtelpibkbcljdlaaGreatDoor
/- Worlds: what is wrong with a world that was numbered, by the document. -/
set_option linter.unusedVariables false
set_option linter.unusedSimpArgs false
set_option maxRecDepth 10000
namespace Go.Ab
def cSs (l : List Str) : List AV := [.lst 1 (l.map cS)]
theorem cNms_nmK (n : Nms) : (cNms n).map (fun v => [v]) = (nmK n).map cSs := rfl
theorem dupK_some {k i : Nat} {seen l : List Str} {r : List (List Str)} (h : dup1 seen l = some i) : dupK seen k (l :: r) = some (k, i) := by simp only [dupK, h]
theorem dupK_none {k : Nat} {seen l : List Str} {r : List (List Str)} (h : dup1 seen l = none) : dupK seen k (l :: r) = dupK (seen ++ l) (k + 1) r := by simp only [dupK, h]
def dupW (d : Option (Nat × Nat)) : Wrg := match d with
  | some (k, i) => ⟨6, k, i⟩
  | none => ⟨0, 0, 0⟩
theorem placeS_at {l : List Str} {s : Str} : decide (0 ≤ placeS l s) = l.contains s := by
  have h : (0 ≤ placeS l s) ↔ s ∈ l := by
    unfold placeS fidx
    constructor
    · intro h
      split at h
      · rename_i i hi
        rw [List.findIdx?_eq_some_iff_getElem] at hi
        obtain ⟨h1, h2, _⟩ := hi
        have : s = l[i] := by simpa using h2
        rw [this]
        exact List.getElem_mem h1
      · omega
    · intro h
      split
      · omega
      · rename_i hi
        rw [List.findIdx?_eq_none_iff] at hi
        have := hi s h
        simp at this
  by_cases hm : s ∈ l
  · simp [hm, h.2 hm]
  · have : ¬ 0 ≤ placeS l s := fun h' => hm (h.1 h')
    simp [hm, this]
end Go.Ab
namespace Go.Proofs.YtelpibkbcljdlaaGreatDoor
open Go Go.Ab
theorem m_ref09_wrong (G : GlP) (e k i : Int) : Meets Pg G F_ref09_wrong [.int .i64 e, .int .i64 k, .int .i64 i] [] (.agg (cWrg ⟨e, k, i⟩)) [] := by
  refine meets_pure (F := fe_ref09_wrong) hTh hMx func_ref09_wrong rfl call_ref09_wrong rfl rfl rfl ?_
  conv => whnf
  exact Fin.pure hTh [.agg (cWrg ⟨e, k, i⟩)] rfl rfl rfl
theorem m_ref09_times (G : GlP) (t : Tms) (h : Int) : Meets Pg G F_ref09_times [.agg (cTms t), .int .i64 h] [] (.int .i64 (winsErr t h)) [] := by
  refine meets_pure (F := fe_ref09_times) hTh hMx func_ref09_times rfl call_ref09_times rfl rfl rfl ?_
  conv => whnf
  refine CallTo.fn (m_ref08_Wins G t h) ?_
  conv => whnf
  exact Fin.one hTh rfl (rfl) rfl
def twR : Lbl := (F_ref09_twice, 47)
theorem one_len (l : List Str) : ∀ x ∈ l.map cS, x.length = 1 := fun x hx => by
  obtain ⟨y, _, rfl⟩ := List.mem_map.1 hx
  rfl
theorem m_ref09_place_own (G : GlP) (l : List Str) (n : Nat) (hn : l.length = n) (s : Str) (hl : n ≤ 4294967296) : Meets Pg G F_ref09_place [.own twR n, .str s] [(twR, .row T_string 1 (l.map cS))] (.int .i64 (placeS l s)) [] := by
  subst hn
  have hlw : (l.map cS).length = l.length := List.length_map _
  refine meets_sees (F := fe_ref09_place) hTh hMx func_ref09_place rfl call_ref09_place rfl rfl ⟨cloX_row (l := jLr) (e := 0) (sz := 1) (Clo.map fS _), trivial⟩ rfl ?_
  conv => whnf
  refine LoopOK.weak _ _ ?_ ?_ ?_ (LoopOK.ind (fun i : Nat => l.length - i) (fun i => [(0, .own twR l.length), (1, .str s), (5, .int .i64 i)]) (fun _ => [(twR, .row T_string 1 (l.map cS))]) (fun i => i ≤ l.length ∧ ∀ x ∈ l.take i, (s == x) = false) ?_ 0 ⟨by omega, by simp⟩)
  · exact ⟨rfl, rfl, rfl, trivial⟩
  · exact ⟨rfl, trivial⟩
  · exact chk_mk ⟨rfl, rfl, rfl, trivial⟩ ⟨cloX_row (l := jLr) (e := 0) (sz := 1) (Clo.map fS _), trivial⟩ rfl
  intro i ⟨hi, hb⟩ IH
  refine LoopOK.round hTh hMx ?_
  conv => whnf
  refine cond_split (fun h => ?_) (fun h => ?_)
  · have hlt : i < l.length := by simpa using h
    conv => whnf
    refine OpTo.rowAt hTh rfl rfl rfl rfl rfl rfl rfl hlw rfl (by omega) (by omega) ?_
    conv => whnf
    refine OpTo.rowLoad hTh i 0 rfl rfl rfl rfl hlw (one_len l) (map_at cS hlt) (by omega) (by decide) (by decide) rfl ?_
    conv => whnf
    refine cond_split (fun he => ?_) (fun he => ?_)
    · have he' : (s == l[i]) = true := by rw [Bool.beq_comm] at he; exact he
      conv => whnf
      have e : placeS l s = i := fidx_hit (p := fun x => s == x) hlt he' hb
      rw [e]
      exact Fin.sees hTh [.int .i64 i] rfl rfl ⟨rfl, trivial⟩ rfl ⟨cloX_row (l := jLr) (e := 0) (sz := 1) (Clo.map fS _), trivial⟩
    · have he' : (s == l[i]) = false := by rw [Bool.beq_comm] at he; exact he
      conv => whnf
      refine WrapTo.i64 (by omega) ?_
      conv => whnf
      refine LoopOK.weak _ _ ?_ ?_ ?_ (IH (i + 1) (by omega) ⟨by omega, none_succ hb hlt he'⟩)
      · exact ⟨rfl, rfl, rfl, trivial⟩
      · exact ⟨rfl, trivial⟩
      · exact chk_mk ⟨rfl, rfl, rfl, trivial⟩ ⟨cloX_row (l := jLr) (e := 0) (sz := 1) (Clo.map fS _), trivial⟩ rfl
  · have hge : l.length ≤ i := by simpa using h
    conv => whnf
    have e : placeS l s = -1 := fidx_miss (p := fun x => s == x) (none_all hb hge)
    rw [e]
    exact Fin.sees hTh [.int .i64 (-1)] rfl rfl ⟨rfl, trivial⟩ rfl ⟨cloX_row (l := jLr) (e := 0) (sz := 1) (Clo.map fS _), trivial⟩
def twT (ll : List (List Str)) (n : Nat) (k : Int) : TL := [(2, .ref (F_ref09_twice, 2) 0), (3, .own twR n), (4, .lst 1 (ll.map cSs)), (5, .int .i64 k)]
def twT1 (ll : List (List Str)) (n : Nat) (k i : Int) : TL := [(2, .ref (F_ref09_twice, 2) 0), (3, .own twR n), (4, .lst 1 (ll.map cSs)), (5, .int .i64 k), (6, .int .i64 i)]
def twB (seen : List Str) : BL := [((F_ref09_twice, 2), .cells T_api_Wrong [.int .i64 0, .int .i64 0, .int .i64 0]), (twR, .row T_string 1 (seen.map cS))]
theorem twClo (seen : List Str) : AllL (keyB (twB seen)) (twB seen) := ⟨rfl, cloX_row (l := jLr) (e := 0) (sz := 1) (Clo.map fS _), trivial⟩
theorem fSs (l : List Str) : cloL (fun _ => false) (cSs l) = true := rfl
theorem twChk (ll : List (List Str)) (n : Nat) (k i : Int) (seen : List Str) : cloChk [] (twT1 ll n k i) (twB seen) = true := chk_mk ⟨rfl, rfl, rfl, rfl, rfl, trivial⟩ (twClo _) rfl
theorem twice_in (G : GlP) (ll : List (List Str)) (pre : List Str) (k : Nat) (hk : k < ll.length) (hkl : ll.length ≤ 4096) (hf : (pre ++ ll[k]).length ≤ 4294967296) {K : AE → TL → BL → Prop}
    (h1 : dup1 pre ll[k] = none → ∀ a b c d e f g, K (.exit 2) ((21, a) :: (20, b) :: (19, c) :: (18, d) :: (17, e) :: (16, f) :: (15, g) :: twT1 ll (pre ++ ll[k]).length k ll[k].length) (twB (pre ++ ll[k])))
    (h2 : ∀ (i : Nat) (T : TL) (L : BL), dup1 pre ll[k] = some i → getT T 2 = .ref (F_ref09_twice, 2) 0 → getL L (F_ref09_twice, 2) = some (.cells T_api_Wrong [.int .i64 6, .int .i64 ((k : Int) + 1), .int .i64 i]) → K .ret T L) :
    LoopOK Pg G fe_ref09_twice [] (loopOf fn_ref09_twice 1) (twT1 ll pre.length k 0) (twB pre) K := by
  have hpl : (pre ++ ll[k]).length = pre.length + ll[k].length := List.length_append
  refine LoopOK.weak _ _ ?_ ?_ ?_ (LoopOK.ind (fun i : Nat => ll[k].length - i) (fun i => twT1 ll (pre ++ ll[k].take i).length k i) (fun i => twB (pre ++ ll[k].take i)) (fun i => i ≤ ll[k].length ∧ ∀ j, j < i → (pre ++ ll[k].take j).contains (ll[k].getD j []) = false) ?_ 0 ⟨by omega, fun k hk => by omega⟩)
  · exact ⟨rfl, own_len (by simp), rfl, rfl, rfl, trivial⟩
  · exact ⟨rfl, row_to (by simp) rfl, trivial⟩
  · exact twChk _ _ _ _ _
  rintro i ⟨hi, hb⟩ IH
  have hpn : (pre ++ ll[k].take i).length = pre.length + i := by simp; omega
  generalize hsn : pre ++ ll[k].take i = seen at hpn ⊢
  have hlw : (seen.map cS).length = seen.length := List.length_map _
  refine LoopOK.round hTh hMx ?_
  conv => whnf
  refine IndexTo.at (map_at cSs hk) ?_
  conv => whnf
  conv => whnf
  refine cond_split (fun h => ?_) (fun hz => ?_)
  · have hlt := lt_of_dec h
    conv => whnf
    refine IndexTo.at (map_at cSs hk) ?_
    conv => whnf
    refine IndexTo.at (map_at cS hlt) ?_
    conv => whnf
    refine CallTo.fnSees (m_ref09_place_own G seen seen.length rfl ll[k][i] (by omega)) ⟨rfl, trivial⟩ ?_
    conv => whnf
    have hc : decide (0 ≤ placeS seen ll[k][i]) = (pre ++ ll[k].take i).contains (ll[k].getD i []) := by rw [placeS_at, hsn, getD_at [] hlt]
    rw [hc]
    refine cond_split (fun h3 => ?_) (fun h3 => ?_)
    · have hd : dup1 pre ll[k] = some i := find_range_hit hlt h3 hb
      conv => whnf
      refine WrapTo.i64 (by omega) ?_
      conv => whnf
      refine CallTo.fn (m_ref09_wrong G 6 _ _) ?_
      conv => whnf
      conv => whnf
      exact h2 i _ _ hd rfl rfl
    · conv => whnf
      refine IndexTo.at (map_at cSs hk) ?_
      conv => whnf
      refine IndexTo.at (map_at cS hlt) ?_
      conv => whnf
      refine ⟨hlw, by simp; omega, ?_⟩
      conv => whnf
      refine WrapTo.i64 (by omega) ?_
      conv => whnf
      have hx : pre ++ ll[k].take (i + 1) = seen ++ [ll[k][i]] := by rw [← hsn, List.take_succ_eq_append_getElem hlt, List.append_assoc]
      refine LoopOK.weak _ _ ?_ ?_ ?_ (IH (i + 1) (by omega) ⟨by omega, fun k' hk' => by
        rcases Nat.lt_succ_iff_lt_or_eq.1 hk' with h | rfl
        · exact hb k' h
        · exact h3⟩)
      · exact ⟨rfl, own_len (by rw [hx, List.length_append]; rfl), rfl, rfl, rfl, trivial⟩
      · exact ⟨rfl, congrArg (fun z => some (ABox.row T_string 1 z)) (by rw [hx, List.map_append]; rfl), trivial⟩
      · exact twChk _ _ _ _ _
  · have hge := le_of_dec hz
    have : i = ll[k].length := by omega
    subst this
    have hd : dup1 pre ll[k] = none := find_range_miss fun k' hk' => hb k' hk'
    have := h1 hd
    conv => whnf
    rw [List.take_length] at hsn
    subst hsn
    exact this _ _ _ _ _ _ _
theorem m_ref09_twice (G : GlP) (n : Nms) (hf : (nmK n).flatten.length ≤ 4294967296) : Meets Pg G F_ref09_twice [.agg (cNms n)] [] (.agg (cWrg (dupW (dupS n)))) [] := by
  have hll : (nmK n).length = 6 := rfl
  have hlk : ((nmK n).map cSs).length = 6 := rfl
  refine meets_pure (F := fe_ref09_twice) hTh hMx func_ref09_twice rfl call_ref09_twice rfl rfl rfl ?_
  conv => whnf
  refine CallTo.fn (m_ref09_lists G n) ?_
  conv => whnf
  refine LoopOK.conv (Conv.empOwn 3 rfl twR rfl T_string 1) ?_
  refine LoopOK.weak _ _ ?_ ?_ ?_ (LoopOK.ind (fun k : Nat => 6 - k) (fun k => twT (nmK n) ((nmK n).take k).flatten.length k) (fun k => twB ((nmK n).take k).flatten) (fun k => k ≤ 6 ∧ dupS n = dupK ((nmK n).take k).flatten (k + 1) ((nmK n).drop k)) ?_ 0 ⟨by omega, rfl⟩)
  · exact ⟨rfl, rfl, rfl, rfl, trivial⟩
  · exact ⟨rfl, rfl, trivial⟩
  · exact chk_mk ⟨rfl, rfl, rfl, rfl, trivial⟩ (twClo _) rfl
  rintro k ⟨hk, hd⟩ IH
  refine LoopOK.round hTh hMx ?_
  conv => whnf
  refine cond_split (fun h => ?_) (fun hz => ?_)
  · have hlt : k < (nmK n).length := by
      have : (k : Int) < ((nmK n).map cSs).length := of_decide_eq_true h
      omega
    rw [List.drop_eq_getElem_cons hlt] at hd
    have hfl : ((nmK n).take (k + 1)).flatten = ((nmK n).take k).flatten ++ (nmK n)[k] := by rw [List.take_succ_eq_append_getElem hlt, List.flatten_append]; simp
    have hle : ((nmK n).take (k + 1)).flatten.length ≤ 4294967296 := by
      have h1 : (nmK n).flatten.length = ((nmK n).take (k + 1)).flatten.length + ((nmK n).drop (k + 1)).flatten.length := by rw [← List.length_append, ← List.flatten_append, List.take_append_drop]
      omega
    conv => whnf
    refine LoopOK.weak (twT1 (nmK n) ((nmK n).take k).flatten.length k 0) (twB ((nmK n).take k).flatten) ⟨rfl, rfl, rfl, rfl, rfl, trivial⟩ ⟨rfl, rfl, trivial⟩ (twChk _ _ _ _ _) ?_
    refine twice_in G (nmK n) _ k hlt (by omega) (by rw [← hfl]; exact hle) (fun hd1 a b c d e f g => ?_) (fun i T L hi hT hL => ?_)
    · rw [dupK_none hd1, ← hfl] at hd
      conv => whnf
      refine WrapTo.i64 (by omega) ?_
      conv => whnf
      refine LoopOK.weak _ _ ?_ ?_ ?_ (IH (k + 1) (by omega) ⟨by omega, hd⟩)
      · exact ⟨rfl, own_len (by rw [hfl]), rfl, rfl, trivial⟩
      · exact ⟨rfl, row_to hfl.symm rfl, trivial⟩
      · exact chk_mk ⟨rfl, rfl, rfl, rfl, trivial⟩ (twClo _) rfl
    · rw [dupK_some hi] at hd
      rw [hd]
      exact fin_wrong hTh rfl ⟨6, (k + 1 : Nat), i⟩ rfl hT hL
  · have : k = 6 := by
      have : ¬ (k : Int) < ((nmK n).map cSs).length := of_decide_eq_false hz
      omega
    subst this
    have hd0 : dupS n = none := hd
    rw [hd0]
    conv => whnf
    exact fin_wrong hTh rfl ⟨0, 0, 0⟩ rfl rfl rfl
end Go.Proofs.YtelpibkbcljdlaaGreatDoor
/- Worlds: the first thing that does not hold, by the document. -/
set_option linter.unusedVariables false
set_option linter.unusedSimpArgs false
set_option maxRecDepth 10000
namespace Go.Ab
theorem any_low {l : List Int} (hl : ∀ s ∈ l, -1 ≤ s) : ∀ i (h : i < l.length), decide (l[i] < 0) = (-1 == l[i]) := fun i h => by
  have := hl _ (List.getElem_mem h)
  by_cases hc : l[i] = -1
  · rw [hc]; rfl
  · have : ¬ l[i] < 0 := by omega
    simp [this]
    omega
theorem err_hit {es : List Int} {i : Nat} {e : Int} (he : es.getD i 0 = e) (h : e ≠ 0) (hb : ∀ j, j < i → es.getD j 0 = 0) : es.findIdx? (fun e => e != 0) = some i := by
  have hi : i < es.length := by
    rcases Nat.lt_or_ge i es.length with h' | h'
    · exact h'
    · exact absurd (by rw [← he]; simp [List.getD, h']) h
  rw [List.findIdx?_eq_some_iff_getElem]
  refine ⟨hi, by rw [← getD_at 0 hi, he]; simpa using h, fun k hk => ?_⟩
  have := hb k hk
  rw [getD_at 0 (by omega)] at this
  simp [this]
theorem err_miss {es : List Int} (hb : ∀ j, j < es.length → es.getD j 0 = 0) : es.findIdx? (fun e => e != 0) = none := by
  rw [List.findIdx?_eq_none_iff]
  intro e he
  obtain ⟨k, hk, rfl⟩ := List.getElem_of_mem he
  have := hb k hk
  rw [getD_at 0 hk] at this
  simp [this]
theorem zeros_none (n : Nat) : (List.replicate n (0 : Int)).findIdx? (fun e => e != 0) = none := by
  rw [List.findIdx?_eq_none_iff]
  intro e he
  rw [(List.mem_replicate.1 he).2]; rfl
theorem err_succ {es : List Int} {i : Nat} (hb : ∀ j, j < i → es.getD j 0 = 0) (h : es.getD i 0 = 0) : ∀ j, j < i + 1 → es.getD j 0 = 0 := fun j hj => by
  rcases Nat.lt_succ_iff_lt_or_eq.1 hj with h' | rfl
  · exact hb j h'
  · exact h
theorem map_getD0 {α : Type} {f : α → Int} {l : List α} {i : Nat} (h : i < l.length) : (l.map f).getD i 0 = f l[i] := by simp [List.getD, h]
def firstW (d : Option (Int × Nat × Nat)) : Wrg := match d with
  | some (e, k, i) => ⟨e, k, i⟩
  | none => ⟨0, 0, 0⟩
end Go.Ab
namespace Go.Proofs.YtelpibkbcljdlaaGreatDoor
open Go Go.Ab
theorem m_ref09_route (G : GlP) (r : RteO) (hr : RteNum r) : Meets Pg G F_ref09_route [.agg (cRteO r)] [] (.int .i64 (routeE r)) [] := by
  have b1 := hr.len
  have b2 := hr.few
  refine meets_pure (F := fe_ref09_route) hTh hMx func_ref09_route rfl call_ref09_route rfl rfl rfl ?_
  conv => whnf
  refine LoopOK.weak _ _ ?_ ?_ ?_ (LoopOK.ind (fun i : Nat => r.stops.length - i) (fun i => [(1, .ref (F_ref09_route, 1) 0), (3, .int .i64 i)]) (fun _ => [((F_ref09_route, 1), .cells T_api_RouteOf (cRteO r))]) (fun i => i ≤ r.stops.length ∧ ∀ j (h : j < r.stops.length), j < i → (-1 == r.stops[j]) = false) ?_ 0 ⟨by omega, fun j h hj => by omega⟩)
  · exact ⟨rfl, rfl, trivial⟩
  · exact ⟨rfl, trivial⟩
  · rfl
  rintro i ⟨hi, hb⟩ IH
  refine LoopOK.round hTh hMx ?_
  conv => whnf
  refine cond_split (fun h => ?_) (fun hz => ?_)
  · have hlt := lt_of_dec h
    conv => whnf
    refine IndexTo.at (map_at cI hlt) ?_
    conv => whnf
    rw [any_low hr.low i hlt]
    refine cond_split (fun h1 => ?_) (fun h1 => ?_)
    · have e : routeE r = 5 := by
        unfold routeE
        rw [if_pos (List.any_eq_true.2 ⟨_, List.getElem_mem hlt, h1⟩)]
      rw [e]
      conv => whnf
      exact Fin.one hTh rfl (rfl) rfl
    · conv => whnf
      refine WrapTo.i64 (by omega) ?_
      conv => whnf
      refine LoopOK.weak _ _ ?_ ?_ ?_ (IH (i + 1) (by omega) ⟨by omega, fun j h hj => by
        rcases Nat.lt_succ_iff_lt_or_eq.1 hj with h | rfl
        · exact hb j _ h
        · exact h1⟩)
      · exact ⟨rfl, rfl, trivial⟩
      · exact ⟨rfl, trivial⟩
      · rfl
  have hge := le_of_dec hz
  have hno : r.stops.any (fun s => -1 == s) = false := by
    rw [List.any_eq_false]
    intro s hs
    obtain ⟨j, hj, rfl⟩ := List.getElem_of_mem hs
    simp only [Bool.not_eq_true]
    exact hb j hj (by omega)
  conv => whnf
  refine LoopOK.weak _ _ ?_ ?_ ?_ (LoopOK.ind (fun k : Nat => r.rides.length - k) (fun k => [(1, .ref (F_ref09_route, 1) 0), (4, .int .i64 ((k : Int) + 1))])
    (fun k => [((F_ref09_route, 1), .cells T_api_RouteOf (cRteO r))]) (fun k => k ≤ r.rides.length ∧ ∀ j, j < k → rideOdd r j = false) ?_ 0 ⟨by omega, fun j hj => by omega⟩)
  · exact ⟨rfl, rfl, trivial⟩
  · exact ⟨rfl, trivial⟩
  · rfl
  rintro k ⟨hk, hb2⟩ IH
  refine LoopOK.round hTh hMx ?_
  conv => whnf
  have e1 : ((k : Int) + 1).toNat = k + 1 := by omega
  refine cond_split (fun h => ?_) (fun hz => ?_)
  · have hlt : k < r.rides.length := by simp at h; omega
    have hodd : rideOdd r k = true → routeE r = 2 := fun e2 => by
      unfold routeE
      rw [if_neg (by simp [hno]), if_pos (any_range hlt e2)]
    conv => whnf
    refine IndexTo.atD cI 0 (by omega) (by omega) ?_
    conv => whnf
    refine WrapTo.i64 (by omega) ?_
    conv => whnf
    refine IndexTo.atD cI 0 (by omega) (by omega) ?_
    conv => whnf
    refine cond_split (fun h2 => ?_) (fun h2 => ?_)
    · have h2' : (r.stops.getD k 0 == r.stops.getD (k + 1) 0) = true := by
        simp only [Int.toNat_natCast, e1, Int.add_sub_cancel] at h2
        rw [Bool.beq_comm]
        exact h2
      have e : routeE r = 2 := hodd (by unfold rideOdd; rw [h2']; simp)
      rw [e]
      conv => whnf
      refine ⟨by kernel_rfl, ?_⟩
      conv => whnf
      exact Fin.one hTh rfl (rfl) rfl
    · have h2' : (r.stops.getD k 0 == r.stops.getD (k + 1) 0) = false := by
        simp only [Int.toNat_natCast, e1, Int.add_sub_cancel] at h2
        rw [Bool.beq_comm]
        exact h2
      conv => whnf
      refine WrapTo.i64 (by omega) ?_
      conv => whnf
      refine IndexTo.atD cI 0 (by omega) (by omega) ?_
      conv => whnf
      refine ⟨by kernel_rfl, ?_⟩
      conv => whnf
      refine cond_split (fun h3 => ?_) (fun h3 => ?_)
      · have h3' : decide (r.rides.getD k 0 < 1) = true := by
          simp only [Int.toNat_natCast, e1, Int.add_sub_cancel] at h3
          exact h3
        have e : routeE r = 2 := hodd (by unfold rideOdd; rw [h3']; simp)
        rw [e]
        conv => whnf
        exact Fin.one hTh rfl (rfl) rfl
      · have h3' : decide (r.rides.getD k 0 < 1) = false := by
          simp only [Int.toNat_natCast, e1, Int.add_sub_cancel] at h3
          exact h3
        have hno2 : rideOdd r k = false := by unfold rideOdd; rw [h3', h2']; rfl
        conv => whnf
        refine WrapTo.i64 (by omega) ?_
        conv => whnf
        refine LoopOK.weak _ _ ?_ ?_ ?_ (IH (k + 1) (by omega) ⟨by omega, fun j hj => by
          rcases Nat.lt_succ_iff_lt_or_eq.1 hj with h | rfl
          · exact hb2 j h
          · exact hno2⟩)
        · exact ⟨rfl, rfl, trivial⟩
        · exact ⟨rfl, trivial⟩
        · rfl
  have hge2 : r.rides.length ≤ k := by simp at hz; omega
  have e : routeE r = 0 := by
    unfold routeE
    rw [if_neg (by simp [hno]), if_neg (by rw [none_range fun j hj => hb2 j (by omega)]; decide)]
  rw [e]
  conv => whnf
  exact Fin.one hTh rfl (rfl) rfl
def fiT (k : Nat) (i : Int) : TL := [(1, .ref (F_ref09_first, 1) 0), (2, .ref (F_ref09_first, 2) 0), (k, .int .i64 i)]
def fiB (w : Wld) : BL := [((F_ref09_first, 1), .cells T_api_World (cWld w)), ((F_ref09_first, 2), .cells T_api_Wrong [.int .i64 0, .int .i64 0, .int .i64 0])]
theorem m_ref09_first (G : GlP) (w : Wld) (hw : WldFits w) (hN : ∀ r ∈ w.routes, RteNum r) : Meets Pg G F_ref09_first [.agg (cWld w)] [] (.agg (cWrg (firstW (firstS w)))) [] := by
  have b1 := hw.paths
  have b2 := hw.doors
  have b3 := hw.routes
  have b4 := hw.trips
  have b5 := hw.hazards
  have f0 : ([] : List Int).findIdx? (fun e => e != 0) = none := rfl
  have f1 := zeros_none w.names.stops.length
  refine meets_pure (F := fe_ref09_first) hTh hMx func_ref09_first rfl call_ref09_first rfl rfl rfl ?_
  conv => whnf
  refine LoopOK.weak _ _ ?_ ?_ ?_ (LoopOK.ind (fun i : Nat => w.paths.length - i) (fun i => fiT 3 i) (fun _ => fiB w) (fun i => i ≤ w.paths.length ∧ ∀ j, j < i → (w.paths.map pathE).getD j 0 = 0) ?_ 0 ⟨by omega, fun j hj => by omega⟩)
  · exact ⟨rfl, rfl, rfl, trivial⟩
  · exact ⟨rfl, rfl, trivial⟩
  · exact chk_mk ⟨rfl, rfl, rfl, trivial⟩ ⟨rfl, rfl, trivial⟩ rfl
  rintro i ⟨hi, hb⟩ IH
  refine LoopOK.round hTh hMx ?_
  conv => whnf
  refine cond_split (fun h => ?_) (fun hz => ?_)
  · have hlt := lt_of_dec h
    have hg := map_getD0 (f := pathE) hlt
    have bad : ∀ e : Int, pathE w.paths[i] = e → e ≠ 0 → firstW (firstS w) = ⟨e, 2, i⟩ := fun e h1 h2 => by
      simp only [firstS, errAll, errKs, f0, f1, err_hit (hg.trans h1) h2 hb, hg.trans h1]
      rfl
    have IH := fun hh => IH (i + 1) (by omega) ⟨by omega, err_succ hb hh⟩
    rw [hg] at IH
    conv => whnf
    refine IndexTo.at (map_at cPthO hlt) ?_
    conv => whnf
    refine IndexTo.at (map_at cPthO hlt) ?_
    conv => whnf
    refine IndexTo.at (map_at cPthO hlt) ?_
    conv => whnf
    refine CallTo.fn (m_ref09_way G _ _ _) ?_
    conv => whnf
    refine ⟨by kernel_rfl, ?_⟩
    conv => whnf
    refine cond_split (fun h1 => ?_) (fun h1 => ?_)
    · conv => whnf
      refine CallTo.fn (m_ref09_wrong G _ _ _) ?_
      conv => whnf
      conv => whnf
      rw [bad _ (rfl) (by simpa [pathE] using h1)]
      exact fin_wrong hTh rfl ⟨_, 2, i⟩ rfl rfl rfl
    · conv => whnf
      refine WrapTo.i64 (by omega) ?_
      conv => whnf
      refine LoopOK.weak _ _ ?_ ?_ ?_ (IH (by simpa [pathE] using h1))
      · exact ⟨rfl, rfl, rfl, trivial⟩
      · exact ⟨rfl, rfl, trivial⟩
      · exact chk_mk ⟨rfl, rfl, rfl, trivial⟩ ⟨rfl, rfl, trivial⟩ rfl
  have hge := le_of_dec hz
  have f2 : (w.paths.map pathE).findIdx? (fun e => e != 0) = none := err_miss fun j hj => hb j (by simp at hj; omega)
  conv => whnf
  refine LoopOK.weak _ _ ?_ ?_ ?_ (LoopOK.ind (fun i : Nat => w.doors.length - i) (fun i => fiT 5 i) (fun _ => fiB w) (fun i => i ≤ w.doors.length ∧ ∀ j, j < i → (w.doors.map (doorE w.hor)).getD j 0 = 0) ?_ 0 ⟨by omega, fun j hj => by omega⟩)
  · exact ⟨rfl, rfl, rfl, trivial⟩
  · exact ⟨rfl, rfl, trivial⟩
  · exact chk_mk ⟨rfl, rfl, rfl, trivial⟩ ⟨rfl, rfl, trivial⟩ rfl
  rintro i ⟨hi, hb⟩ IH
  refine LoopOK.round hTh hMx ?_
  conv => whnf
  refine cond_split (fun h => ?_) (fun hz => ?_)
  · have hlt := lt_of_dec h
    have hg := map_getD0 (f := doorE w.hor) hlt
    have bad : ∀ e : Int, doorE w.hor w.doors[i] = e → e ≠ 0 → firstW (firstS w) = ⟨e, 3, i⟩ := fun e h1 h2 => by
      simp only [firstS, errAll, errKs, f0, f1, f2, err_hit (hg.trans h1) h2 hb, hg.trans h1]
      rfl
    have IH := fun hh => IH (i + 1) (by omega) ⟨by omega, err_succ hb hh⟩
    rw [hg] at IH
    conv => whnf
    refine IndexTo.at (map_at cDorO hlt) ?_
    conv => whnf
    refine IndexTo.at (map_at cDorO hlt) ?_
    conv => whnf
    refine IndexTo.at (map_at cDorO hlt) ?_
    conv => whnf
    refine CallTo.fn (m_ref09_way G _ _ _) ?_
    conv => whnf
    refine ⟨by kernel_rfl, ?_⟩
    conv => whnf
    refine cond_split (fun h1 => ?_) (fun h1 => ?_)
    · have e1 : doorE w.hor w.doors[i] = winsErr w.doors[i].tm w.hor := by unfold doorE; rw [if_pos (by simpa using h1)]
      conv => whnf
      refine IndexTo.at (map_at cDorO hlt) ?_
      conv => whnf
      refine CallTo.fn (m_ref09_times G _ _) ?_
      conv => whnf
      refine ⟨by kernel_rfl, ?_⟩
      conv => whnf
      refine cond_split (fun h2 => ?_) (fun h2 => ?_)
      · conv => whnf
        refine CallTo.fn (m_ref09_wrong G _ _ _) ?_
        conv => whnf
        conv => whnf
        rw [bad _ (e1) (by simpa using h2)]
        exact fin_wrong hTh rfl ⟨_, 3, i⟩ rfl rfl rfl
      · conv => whnf
        refine WrapTo.i64 (by omega) ?_
        conv => whnf
        refine LoopOK.weak _ _ ?_ ?_ ?_ (IH (by rw [e1]; simpa using h2))
        · exact ⟨rfl, rfl, rfl, trivial⟩
        · exact ⟨rfl, rfl, trivial⟩
        · exact chk_mk ⟨rfl, rfl, rfl, trivial⟩ ⟨rfl, rfl, trivial⟩ rfl
    · have e1 : doorE w.hor w.doors[i] = wayE w.doors[i].a w.doors[i].b w.doors[i].ln := by unfold doorE; rw [if_neg (by simpa using h1)]
      have h2 : ¬ wayE w.doors[i].a w.doors[i].b w.doors[i].ln = 0 := by simpa using h1
      conv => whnf
      refine cond_split (fun h2 => ?_) (fun h2 => ?_)
      · conv => whnf
        refine CallTo.fn (m_ref09_wrong G _ _ _) ?_
        conv => whnf
        conv => whnf
        rw [bad _ (e1) (by simpa using h2)]
        exact fin_wrong hTh rfl ⟨_, 3, i⟩ rfl rfl rfl
      · exact absurd (by simpa using h2) ‹¬ wayE w.doors[i].a w.doors[i].b w.doors[i].ln = 0›
  have hge := le_of_dec hz
  have f3 : (w.doors.map (doorE w.hor)).findIdx? (fun e => e != 0) = none := err_miss fun j hj => hb j (by simp at hj; omega)
  conv => whnf
  refine LoopOK.weak _ _ ?_ ?_ ?_ (LoopOK.ind (fun i : Nat => w.routes.length - i) (fun i => fiT 7 i) (fun _ => fiB w) (fun i => i ≤ w.routes.length ∧ ∀ j, j < i → (w.routes.map routeE).getD j 0 = 0) ?_ 0 ⟨by omega, fun j hj => by omega⟩)
  · exact ⟨rfl, rfl, rfl, trivial⟩
  · exact ⟨rfl, rfl, trivial⟩
  · exact chk_mk ⟨rfl, rfl, rfl, trivial⟩ ⟨rfl, rfl, trivial⟩ rfl
  rintro i ⟨hi, hb⟩ IH
  refine LoopOK.round hTh hMx ?_
  conv => whnf
  refine cond_split (fun h => ?_) (fun hz => ?_)
  · have hlt := lt_of_dec h
    have hg := map_getD0 (f := routeE) hlt
    have bad : ∀ e : Int, routeE w.routes[i] = e → e ≠ 0 → firstW (firstS w) = ⟨e, 4, i⟩ := fun e h1 h2 => by
      simp only [firstS, errAll, errKs, f0, f1, f2, f3, err_hit (hg.trans h1) h2 hb, hg.trans h1]
      rfl
    have IH := fun hh => IH (i + 1) (by omega) ⟨by omega, err_succ hb hh⟩
    rw [hg] at IH
    conv => whnf
    refine IndexTo.at (map_at cRteO hlt) ?_
    conv => whnf
    refine CallTo.fn (m_ref09_route G w.routes[i] (hN _ (List.getElem_mem hlt))) ?_
    conv => whnf
    refine cond_split (fun h1 => ?_) (fun h1 => ?_)
    · conv => whnf
      refine CallTo.fn (m_ref09_wrong G _ _ _) ?_
      conv => whnf
      conv => whnf
      rw [bad _ (rfl) (by simpa using h1)]
      exact fin_wrong hTh rfl ⟨_, 4, i⟩ rfl rfl rfl
    · conv => whnf
      refine WrapTo.i64 (by omega) ?_
      conv => whnf
      refine LoopOK.weak _ _ ?_ ?_ ?_ (IH (by simpa using h1))
      · exact ⟨rfl, rfl, rfl, trivial⟩
      · exact ⟨rfl, rfl, trivial⟩
      · exact chk_mk ⟨rfl, rfl, rfl, trivial⟩ ⟨rfl, rfl, trivial⟩ rfl
  have hge := le_of_dec hz
  have f4 : (w.routes.map routeE).findIdx? (fun e => e != 0) = none := err_miss fun j hj => hb j (by simp at hj; omega)
  conv => whnf
  refine LoopOK.weak _ _ ?_ ?_ ?_ (LoopOK.ind (fun i : Nat => w.trips.length - i) (fun i => fiT 9 i) (fun _ => fiB w) (fun i => i ≤ w.trips.length ∧ ∀ j, j < i → (w.trips.map tripE).getD j 0 = 0) ?_ 0 ⟨by omega, fun j hj => by omega⟩)
  · exact ⟨rfl, rfl, rfl, trivial⟩
  · exact ⟨rfl, rfl, trivial⟩
  · exact chk_mk ⟨rfl, rfl, rfl, trivial⟩ ⟨rfl, rfl, trivial⟩ rfl
  rintro i ⟨hi, hb⟩ IH
  refine LoopOK.round hTh hMx ?_
  conv => whnf
  refine cond_split (fun h => ?_) (fun hz => ?_)
  · have hlt := lt_of_dec h
    have hg := map_getD0 (f := tripE) hlt
    have bad : ∀ e : Int, tripE w.trips[i] = e → e ≠ 0 → firstW (firstS w) = ⟨e, 5, i⟩ := fun e h1 h2 => by
      simp only [firstS, errAll, errKs, f0, f1, f2, f3, f4, err_hit (hg.trans h1) h2 hb, hg.trans h1]
      rfl
    have IH := fun hh => IH (i + 1) (by omega) ⟨by omega, err_succ hb hh⟩
    rw [hg] at IH
    conv => whnf
    refine IndexTo.at (map_at cTrpO hlt) ?_
    conv => whnf
    refine cond_split (fun h1 => ?_) (fun h1 => ?_)
    · have e1 : tripE w.trips[i] = 5 := by simp at h1; simp [tripE, h1]
      conv => whnf
      refine CallTo.fn (m_ref09_wrong G _ _ _) ?_
      conv => whnf
      conv => whnf
      rw [bad 5 (e1) (by decide)]
      exact fin_wrong hTh rfl ⟨_, 5, i⟩ rfl rfl rfl
    · conv => whnf
      refine cond_split (fun h2 => ?_) (fun h2 => ?_)
      · have e1 : tripE w.trips[i] = 2 := by simp at h1 h2; simp [tripE, h2]; omega
        conv => whnf
        refine CallTo.fn (m_ref09_wrong G _ _ _) ?_
        conv => whnf
        conv => whnf
        rw [bad 2 (e1) (by decide)]
        exact fin_wrong hTh rfl ⟨_, 5, i⟩ rfl rfl rfl
      · conv => whnf
        refine WrapTo.i64 (by omega) ?_
        conv => whnf
        refine LoopOK.weak _ _ ?_ ?_ ?_ (IH (by simp at h1 h2; simp [tripE]; omega))
        · exact ⟨rfl, rfl, rfl, trivial⟩
        · exact ⟨rfl, rfl, trivial⟩
        · exact chk_mk ⟨rfl, rfl, rfl, trivial⟩ ⟨rfl, rfl, trivial⟩ rfl
  have hge := le_of_dec hz
  have f5 : (w.trips.map tripE).findIdx? (fun e => e != 0) = none := err_miss fun j hj => hb j (by simp at hj; omega)
  conv => whnf
  refine LoopOK.weak _ _ ?_ ?_ ?_ (LoopOK.ind (fun i : Nat => w.hazards.length - i) (fun i => fiT 11 i) (fun _ => fiB w) (fun i => i ≤ w.hazards.length ∧ ∀ j, j < i → (w.hazards.map (hazE w.hor)).getD j 0 = 0) ?_ 0 ⟨by omega, fun j hj => by omega⟩)
  · exact ⟨rfl, rfl, rfl, trivial⟩
  · exact ⟨rfl, rfl, trivial⟩
  · exact chk_mk ⟨rfl, rfl, rfl, trivial⟩ ⟨rfl, rfl, trivial⟩ rfl
  rintro i ⟨hi, hb⟩ IH
  refine LoopOK.round hTh hMx ?_
  conv => whnf
  refine cond_split (fun h => ?_) (fun hz => ?_)
  · have hlt := lt_of_dec h
    have hg := map_getD0 (f := hazE w.hor) hlt
    have bad : ∀ e : Int, hazE w.hor w.hazards[i] = e → e ≠ 0 → firstW (firstS w) = ⟨e, 6, i⟩ := fun e h1 h2 => by
      simp only [firstS, errAll, errKs, f0, f1, f2, f3, f4, f5, err_hit (hg.trans h1) h2 hb, hg.trans h1]
      rfl
    have IH := fun hh => IH (i + 1) (by omega) ⟨by omega, err_succ hb hh⟩
    rw [hg] at IH
    conv => whnf
    refine IndexTo.at (map_at cHzdO hlt) ?_
    conv => whnf
    refine CallTo.fn (m_ref09_times G _ _) ?_
    conv => whnf
    refine ⟨by kernel_rfl, ?_⟩
    conv => whnf
    refine IndexTo.at (map_at cHzdO hlt) ?_
    conv => whnf
    refine cond_split (fun h1 => ?_) (fun h1 => ?_)
    · have e1 : hazE w.hor w.hazards[i] = 5 := by simp at h1; simp [hazE, h1]
      conv => whnf
      refine CallTo.fn (m_ref09_wrong G _ _ _) ?_
      conv => whnf
      conv => whnf
      rw [bad 5 (e1) (by decide)]
      exact fin_wrong hTh rfl ⟨_, 6, i⟩ rfl rfl rfl
    · have e1 : hazE w.hor w.hazards[i] = winsErr w.hazards[i].tm w.hor := by simp at h1; simp [hazE]; omega
      conv => whnf
      refine cond_split (fun h2 => ?_) (fun h2 => ?_)
      · conv => whnf
        refine CallTo.fn (m_ref09_wrong G _ _ _) ?_
        conv => whnf
        conv => whnf
        rw [bad _ (e1) (by simpa using h2)]
        exact fin_wrong hTh rfl ⟨_, 6, i⟩ rfl rfl rfl
      · conv => whnf
        refine WrapTo.i64 (by omega) ?_
        conv => whnf
        refine LoopOK.weak _ _ ?_ ?_ ?_ (IH (by rw [e1]; simpa using h2))
        · exact ⟨rfl, rfl, rfl, trivial⟩
        · exact ⟨rfl, rfl, trivial⟩
        · exact chk_mk ⟨rfl, rfl, rfl, trivial⟩ ⟨rfl, rfl, trivial⟩ rfl
  have hge := le_of_dec hz
  have f6 : (w.hazards.map (hazE w.hor)).findIdx? (fun e => e != 0) = none := err_miss fun j hj => hb j (by simp at hj; omega)
  conv => whnf
  have e : firstW (firstS w) = ⟨0, 0, 0⟩ := by simp only [firstS, errAll, errKs, f0, f1, f2, f3, f4, f5, f6]; rfl
  rw [e]
  exact fin_wrong hTh rfl ⟨0, 0, 0⟩ rfl rfl rfl
end Go.Proofs.YtelpibkbcljdlaaGreatDoor
/- Worlds: made out of a sheet, by the document. -/
set_option linter.unusedVariables false
set_option linter.unusedSimpArgs false
set_option maxRecDepth 10000
namespace Go.Ab
theorem wrongS_none {w : Wld} (h : dupS w.names = none) : wrongS w = firstW (firstS w) := by unfold wrongS firstW; rw [h] <;> rfl
theorem wrongS_some {w : Wld} {d : Nat × Nat} (h : dupS w.names = some d) : wrongS w = dupW (dupS w.names) := by unfold wrongS dupW; rw [h]
end Go.Ab
namespace Go.Proofs.YtelpibkbcljdlaaGreatDoor
open Go Go.Ab
theorem m_ref09_Make (G : GlP) (hR : Res G) (x : Sht) (hx : ShtFits x) : Meets Pg G F_ref09_Make [.agg (cSht x)] [] (.tup [.agg (cWld (makeW x)), .agg (cWrg (makeE x))]) [] := by
  refine meets_pure (F := fe_ref09_Make) hTh hMx func_ref09_Make rfl call_ref09_Make rfl rfl rfl ?_
  conv => whnf
  refine CallTo.fn (m_ref05_Check G x hx) ?_
  conv => whnf
  refine cond_split (fun h => ?_) (fun h => ?_)
  · have h' : shtErr x ≠ 0 := by simpa using h
    have e1 : makeW x = wld0 := by simp [makeW, h']
    have e2 : makeE x = ⟨shtErr x, 0, 0⟩ := by simp [makeE, h']
    rw [e1, e2]
    conv => whnf
    refine CallTo.fn (m_ref09_wrong G _ _ _) ?_
    conv => whnf
    exact fin_make hTh rfl rfl wld0 ⟨shtErr x, 0, 0⟩ zWld rfl rfl rfl rfl rfl rfl le_zWld
  have h' : shtErr x = 0 := by simpa using h
  have hN := numb_of hx (shtOK_of h')
  conv => whnf
  refine CallTo.fn (m_ref09_numbered G x hx) ?_
  conv => whnf
  refine CallTo.fn (m_ref09_twice G (numW x).names (by have := hN.few; omega)) ?_
  conv => whnf
  cases hd : dupS (numW x).names with
  | some d =>
    have hw := wrongS_some hd
    rw [hd] at hw
    have h2' : (wrongS (numW x)).err ≠ 0 := by rw [hw]; exact (by decide : (6 : Int) ≠ 0)
    have e1 : makeW x = wld0 := by simp [makeW, h2']
    have e2 : makeE x = dupW (some d) := by unfold makeE; rw [if_pos h', if_neg h2', hw]
    rw [e1, e2]
    conv => whnf
    refine ⟨by kernel_rfl, ?_⟩
    conv => whnf
    exact fin_make hTh rfl rfl wld0 (dupW (some d)) zWld rfl rfl rfl rfl rfl rfl le_zWld
  | none =>
    have hw := wrongS_none hd
    conv => whnf
    refine CallTo.fn (m_ref09_first G (numW x) hN.fits hN.nums) ?_
    conv => whnf
    refine cond_split (fun h2 => ?_) (fun h2 => ?_)
    · have h2' : (wrongS (numW x)).err ≠ 0 := by rw [hw]; simpa using h2
      have e1 : makeW x = wld0 := by simp [makeW, h2']
      have e2 : makeE x = firstW (firstS (numW x)) := by unfold makeE; rw [if_pos h', if_neg h2', hw]
      rw [e1, e2]
      conv => whnf
      refine ⟨by kernel_rfl, ?_⟩
      conv => whnf
      exact fin_make hTh rfl rfl wld0 (firstW (firstS (numW x))) zWld rfl rfl rfl rfl rfl rfl le_zWld
    have h2' : (wrongS (numW x)).err = 0 := by rw [hw]; simpa using h2
    have e1 : makeW x = numW x := by simp [makeW, h', h2']
    have e2 : makeE x = ⟨0, 0, 0⟩ := by simp [makeE, h', h2']
    rw [e1, e2]
    conv => whnf
    exact fin_make hTh rfl rfl (numW x) ⟨0, 0, 0⟩ (cWld (numW x)) rfl rfl rfl rfl rfl rfl (.refl _)
end Go.Proofs.YtelpibkbcljdlaaGreatDoor
