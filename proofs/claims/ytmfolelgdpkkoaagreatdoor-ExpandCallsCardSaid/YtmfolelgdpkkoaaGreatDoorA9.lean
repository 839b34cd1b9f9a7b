/- Worlds: what is wrong with a world that was numbered, by the document. -/
import Derived.Carry
import Derived.ChangeSame
import Derived.Deep.DeepHandedRow
import Derived.Deep.Slices
import Derived.Laws.Entries
import Derived.Laws.MakeOwn
import Derived.Lib.LaidTab
import Derived.Test.YtmfolelgdpkkoaaGreatDoorA8
set_option linter.unusedVariables false
set_option linter.unusedSimpArgs false
set_option maxRecDepth 10000
namespace Go.Ab
def cSs (l : List Str) : List AV := [.lst 1 (l.map cS)]
theorem cNms_nmK (n : Nms) : (cNms n).map (fun v => [v]) = (nmK n).map cSs := rfl
theorem dupK_some {k i : Nat} {seen l : List Str} {r : List (List Str)} (h : dup1 seen l = some i) : dupK seen k (l :: r) = some (k, i) := by simp only [dupK, h]
theorem dupK_none {k : Nat} {seen l : List Str} {r : List (List Str)} (h : dup1 seen l = none) : dupK seen k (l :: r) = dupK (seen ++ l) (k + 1) r := by simp only [dupK, h]
def dupW (d : Option (Nat × Nat)) : Wrg := match d with
  | some (k, i) => ⟨6, k, i⟩
  | none => ⟨0, 0, 0⟩
theorem placeS_at {l : List Str} {s : Str} : decide (0 ≤ placeS l s) = l.contains s := by
  have h : (0 ≤ placeS l s) ↔ s ∈ l := by
    unfold placeS fidx
    constructor
    · intro h
      split at h
      · rename_i i hi
        rw [List.findIdx?_eq_some_iff_getElem] at hi
        obtain ⟨h1, h2, _⟩ := hi
        have : s = l[i] := by simpa using h2
        rw [this]
        exact List.getElem_mem h1
      · omega
    · intro h
      split
      · omega
      · rename_i hi
        rw [List.findIdx?_eq_none_iff] at hi
        have := hi s h
        simp at this
  by_cases hm : s ∈ l
  · simp [hm, h.2 hm]
  · have : ¬ 0 ≤ placeS l s := fun h' => hm (h.1 h')
    simp [hm, this]
end Go.Ab
namespace Go.Proofs.YtmfolelgdpkkoaaGreatDoor
open Go Go.Ab
theorem m_ref09_wrong (G : GlP) (e k i : Int) : Meets Pg G F_ref09_wrong [.int .i64 e, .int .i64 k, .int .i64 i] [] (.agg (cWrg ⟨e, k, i⟩)) [] := by
  refine meets_pure (F := fe_ref09_wrong) hTh hMx func_ref09_wrong rfl call_ref09_wrong rfl rfl rfl ?_
  conv => whnf
  exact Fin.pure hTh [.agg (cWrg ⟨e, k, i⟩)] rfl rfl rfl
theorem m_ref09_times (G : GlP) (t : Tms) (h : Int) : Meets Pg G F_ref09_times [.agg (cTms t), .int .i64 h] [] (.int .i64 (winsErr t h)) [] := by
  refine meets_pure (F := fe_ref09_times) hTh hMx func_ref09_times rfl call_ref09_times rfl rfl rfl ?_
  conv => whnf
  refine CallTo.fn (m_ref08_Wins G t h) ?_
  conv => whnf
  exact Fin.one hTh rfl (rfl) rfl
def twR : Lbl := (F_ref09_twice, 47)
theorem one_len (l : List Str) : ∀ x ∈ l.map cS, x.length = 1 := fun x hx => by
  obtain ⟨y, _, rfl⟩ := List.mem_map.1 hx
  rfl
theorem m_ref09_place_own (G : GlP) (l : List Str) (n : Nat) (hn : l.length = n) (s : Str) (hl : n ≤ 4294967296) : Meets Pg G F_ref09_place [.own twR n, .str s] [(twR, .row T_string 1 (l.map cS))] (.int .i64 (placeS l s)) [] := by
  subst hn
  have hlw : (l.map cS).length = l.length := List.length_map _
  refine meets_sees (F := fe_ref09_place) hTh hMx func_ref09_place rfl call_ref09_place rfl rfl ⟨cloX_row (l := jLr) (e := 0) (sz := 1) (Clo.map fS _), trivial⟩ rfl ?_
  conv => whnf
  refine LoopOK.weak _ _ ?_ ?_ ?_ (LoopOK.ind (fun i : Nat => l.length - i) (fun i => [(0, .own twR l.length), (1, .str s), (5, .int .i64 i)]) (fun _ => [(twR, .row T_string 1 (l.map cS))]) (fun i => i ≤ l.length ∧ ∀ x ∈ l.take i, (s == x) = false) ?_ 0 ⟨by omega, by simp⟩)
  · exact ⟨rfl, rfl, rfl, trivial⟩
  · exact ⟨rfl, trivial⟩
  · exact chk_mk ⟨rfl, rfl, rfl, trivial⟩ ⟨cloX_row (l := jLr) (e := 0) (sz := 1) (Clo.map fS _), trivial⟩ rfl
  intro i ⟨hi, hb⟩ IH
  refine LoopOK.round hTh hMx ?_
  conv => whnf
  refine cond_split (fun h => ?_) (fun h => ?_)
  · have hlt : i < l.length := by simpa using h
    conv => whnf
    refine OpTo.rowAt hTh rfl rfl rfl rfl rfl rfl rfl hlw rfl (by omega) (by omega) ?_
    conv => whnf
    refine OpTo.rowLoad hTh i 0 rfl rfl rfl rfl hlw (one_len l) (map_at cS hlt) (by omega) (by decide) (by decide) rfl ?_
    conv => whnf
    refine cond_split (fun he => ?_) (fun he => ?_)
    · have he' : (s == l[i]) = true := by rw [Bool.beq_comm] at he; exact he
      conv => whnf
      have e : placeS l s = i := fidx_hit (p := fun x => s == x) hlt he' hb
      rw [e]
      exact Fin.sees hTh [.int .i64 i] rfl rfl ⟨rfl, trivial⟩ rfl ⟨cloX_row (l := jLr) (e := 0) (sz := 1) (Clo.map fS _), trivial⟩
    · have he' : (s == l[i]) = false := by rw [Bool.beq_comm] at he; exact he
      conv => whnf
      refine WrapTo.i64 (by omega) ?_
      conv => whnf
      refine LoopOK.weak _ _ ?_ ?_ ?_ (IH (i + 1) (by omega) ⟨by omega, none_succ hb hlt he'⟩)
      · exact ⟨rfl, rfl, rfl, trivial⟩
      · exact ⟨rfl, trivial⟩
      · exact chk_mk ⟨rfl, rfl, rfl, trivial⟩ ⟨cloX_row (l := jLr) (e := 0) (sz := 1) (Clo.map fS _), trivial⟩ rfl
  · have hge : l.length ≤ i := by simpa using h
    conv => whnf
    have e : placeS l s = -1 := fidx_miss (p := fun x => s == x) (none_all hb hge)
    rw [e]
    exact Fin.sees hTh [.int .i64 (-1)] rfl rfl ⟨rfl, trivial⟩ rfl ⟨cloX_row (l := jLr) (e := 0) (sz := 1) (Clo.map fS _), trivial⟩
def twT (ll : List (List Str)) (n : Nat) (k : Int) : TL := [(2, .ref (F_ref09_twice, 2) 0), (3, .own twR n), (4, .lst 1 (ll.map cSs)), (5, .int .i64 k)]
def twT1 (ll : List (List Str)) (n : Nat) (k i : Int) : TL := [(2, .ref (F_ref09_twice, 2) 0), (3, .own twR n), (4, .lst 1 (ll.map cSs)), (5, .int .i64 k), (6, .int .i64 i)]
def twB (seen : List Str) : BL := [((F_ref09_twice, 2), .cells T_api_Wrong [.int .i64 0, .int .i64 0, .int .i64 0]), (twR, .row T_string 1 (seen.map cS))]
theorem twClo (seen : List Str) : AllL (keyB (twB seen)) (twB seen) := ⟨rfl, cloX_row (l := jLr) (e := 0) (sz := 1) (Clo.map fS _), trivial⟩
theorem fSs (l : List Str) : cloL (fun _ => false) (cSs l) = true := rfl
theorem twChk (ll : List (List Str)) (n : Nat) (k i : Int) (seen : List Str) : cloChk [] (twT1 ll n k i) (twB seen) = true := chk_mk ⟨rfl, rfl, rfl, rfl, rfl, trivial⟩ (twClo _) rfl
theorem twice_in (G : GlP) (ll : List (List Str)) (pre : List Str) (k : Nat) (hk : k < ll.length) (hkl : ll.length ≤ 4096) (hf : (pre ++ ll[k]).length ≤ 4294967296) {K : AE → TL → BL → Prop}
    (h1 : dup1 pre ll[k] = none → ∀ a b c d e f g, K (.exit 2) ((21, a) :: (20, b) :: (19, c) :: (18, d) :: (17, e) :: (16, f) :: (15, g) :: twT1 ll (pre ++ ll[k]).length k ll[k].length) (twB (pre ++ ll[k])))
    (h2 : ∀ (i : Nat) (T : TL) (L : BL), dup1 pre ll[k] = some i → getT T 2 = .ref (F_ref09_twice, 2) 0 → getL L (F_ref09_twice, 2) = some (.cells T_api_Wrong [.int .i64 6, .int .i64 ((k : Int) + 1), .int .i64 i]) → K .ret T L) :
    LoopOK Pg G fe_ref09_twice [] (loopOf fn_ref09_twice 1) (twT1 ll pre.length k 0) (twB pre) K := by
  have hpl : (pre ++ ll[k]).length = pre.length + ll[k].length := List.length_append
  refine LoopOK.weak _ _ ?_ ?_ ?_ (LoopOK.ind (fun i : Nat => ll[k].length - i) (fun i => twT1 ll (pre ++ ll[k].take i).length k i) (fun i => twB (pre ++ ll[k].take i)) (fun i => i ≤ ll[k].length ∧ ∀ j, j < i → (pre ++ ll[k].take j).contains (ll[k].getD j []) = false) ?_ 0 ⟨by omega, fun k hk => by omega⟩)
  · exact ⟨rfl, own_len (by simp), rfl, rfl, rfl, trivial⟩
  · exact ⟨rfl, row_to (by simp) rfl, trivial⟩
  · exact twChk _ _ _ _ _
  rintro i ⟨hi, hb⟩ IH
  have hpn : (pre ++ ll[k].take i).length = pre.length + i := by simp; omega
  generalize hsn : pre ++ ll[k].take i = seen at hpn ⊢
  have hlw : (seen.map cS).length = seen.length := List.length_map _
  refine LoopOK.round hTh hMx ?_
  conv => whnf
  refine IndexTo.at (map_at cSs hk) ?_
  conv => whnf
  conv => whnf
  refine cond_split (fun h => ?_) (fun hz => ?_)
  · have hlt := lt_of_dec h
    conv => whnf
    refine IndexTo.at (map_at cSs hk) ?_
    conv => whnf
    refine IndexTo.at (map_at cS hlt) ?_
    conv => whnf
    refine CallTo.fnSees (m_ref09_place_own G seen seen.length rfl ll[k][i] (by omega)) ⟨rfl, trivial⟩ ?_
    conv => whnf
    have hc : decide (0 ≤ placeS seen ll[k][i]) = (pre ++ ll[k].take i).contains (ll[k].getD i []) := by rw [placeS_at, hsn, getD_at [] hlt]
    rw [hc]
    refine cond_split (fun h3 => ?_) (fun h3 => ?_)
    · have hd : dup1 pre ll[k] = some i := find_range_hit hlt h3 hb
      conv => whnf
      refine WrapTo.i64 (by omega) ?_
      conv => whnf
      refine CallTo.fn (m_ref09_wrong G 6 _ _) ?_
      conv => whnf
      conv => whnf
      exact h2 i _ _ hd rfl rfl
    · conv => whnf
      refine IndexTo.at (map_at cSs hk) ?_
      conv => whnf
      refine IndexTo.at (map_at cS hlt) ?_
      conv => whnf
      refine ⟨hlw, by simp; omega, ?_⟩
      conv => whnf
      refine WrapTo.i64 (by omega) ?_
      conv => whnf
      have hx : pre ++ ll[k].take (i + 1) = seen ++ [ll[k][i]] := by rw [← hsn, List.take_succ_eq_append_getElem hlt, List.append_assoc]
      refine LoopOK.weak _ _ ?_ ?_ ?_ (IH (i + 1) (by omega) ⟨by omega, fun k' hk' => by
        rcases Nat.lt_succ_iff_lt_or_eq.1 hk' with h | rfl
        · exact hb k' h
        · exact h3⟩)
      · exact ⟨rfl, own_len (by rw [hx, List.length_append]; rfl), rfl, rfl, rfl, trivial⟩
      · exact ⟨rfl, congrArg (fun z => some (ABox.row T_string 1 z)) (by rw [hx, List.map_append]; rfl), trivial⟩
      · exact twChk _ _ _ _ _
  · have hge := le_of_dec hz
    have : i = ll[k].length := by omega
    subst this
    have hd : dup1 pre ll[k] = none := find_range_miss fun k' hk' => hb k' hk'
    have := h1 hd
    conv => whnf
    rw [List.take_length] at hsn
    subst hsn
    exact this _ _ _ _ _ _ _
theorem m_ref09_twice (G : GlP) (n : Nms) (hf : (nmK n).flatten.length ≤ 4294967296) : Meets Pg G F_ref09_twice [.agg (cNms n)] [] (.agg (cWrg (dupW (dupS n)))) [] := by
  have hll : (nmK n).length = 6 := rfl
  have hlk : ((nmK n).map cSs).length = 6 := rfl
  refine meets_pure (F := fe_ref09_twice) hTh hMx func_ref09_twice rfl call_ref09_twice rfl rfl rfl ?_
  conv => whnf
  refine CallTo.fn (m_ref09_lists G n) ?_
  conv => whnf
  refine LoopOK.conv (Conv.empOwn 3 rfl twR rfl T_string 1) ?_
  refine LoopOK.weak _ _ ?_ ?_ ?_ (LoopOK.ind (fun k : Nat => 6 - k) (fun k => twT (nmK n) ((nmK n).take k).flatten.length k) (fun k => twB ((nmK n).take k).flatten) (fun k => k ≤ 6 ∧ dupS n = dupK ((nmK n).take k).flatten (k + 1) ((nmK n).drop k)) ?_ 0 ⟨by omega, rfl⟩)
  · exact ⟨rfl, rfl, rfl, rfl, trivial⟩
  · exact ⟨rfl, rfl, trivial⟩
  · exact chk_mk ⟨rfl, rfl, rfl, rfl, trivial⟩ (twClo _) rfl
  rintro k ⟨hk, hd⟩ IH
  refine LoopOK.round hTh hMx ?_
  conv => whnf
  refine cond_split (fun h => ?_) (fun hz => ?_)
  · have hlt : k < (nmK n).length := by
      have : (k : Int) < ((nmK n).map cSs).length := of_decide_eq_true h
      omega
    rw [List.drop_eq_getElem_cons hlt] at hd
    have hfl : ((nmK n).take (k + 1)).flatten = ((nmK n).take k).flatten ++ (nmK n)[k] := by rw [List.take_succ_eq_append_getElem hlt, List.flatten_append]; simp
    have hle : ((nmK n).take (k + 1)).flatten.length ≤ 4294967296 := by
      have h1 : (nmK n).flatten.length = ((nmK n).take (k + 1)).flatten.length + ((nmK n).drop (k + 1)).flatten.length := by rw [← List.length_append, ← List.flatten_append, List.take_append_drop]
      omega
    conv => whnf
    refine LoopOK.weak (twT1 (nmK n) ((nmK n).take k).flatten.length k 0) (twB ((nmK n).take k).flatten) ⟨rfl, rfl, rfl, rfl, rfl, trivial⟩ ⟨rfl, rfl, trivial⟩ (twChk _ _ _ _ _) ?_
    refine twice_in G (nmK n) _ k hlt (by omega) (by rw [← hfl]; exact hle) (fun hd1 a b c d e f g => ?_) (fun i T L hi hT hL => ?_)
    · rw [dupK_none hd1, ← hfl] at hd
      conv => whnf
      refine WrapTo.i64 (by omega) ?_
      conv => whnf
      refine LoopOK.weak _ _ ?_ ?_ ?_ (IH (k + 1) (by omega) ⟨by omega, hd⟩)
      · exact ⟨rfl, own_len (by rw [hfl]), rfl, rfl, trivial⟩
      · exact ⟨rfl, row_to hfl.symm rfl, trivial⟩
      · exact chk_mk ⟨rfl, rfl, rfl, rfl, trivial⟩ (twClo _) rfl
    · rw [dupK_some hi] at hd
      rw [hd]
      exact fin_wrong hTh rfl ⟨6, (k + 1 : Nat), i⟩ rfl hT hL
  · have : k = 6 := by
      have : ¬ (k : Int) < ((nmK n).map cSs).length := of_decide_eq_false hz
      omega
    subst this
    have hd0 : dupS n = none := hd
    rw [hd0]
    conv => whnf
    exact fin_wrong hTh rfl ⟨0, 0, 0⟩ rfl rfl rfl
end Go.Proofs.YtmfolelgdpkkoaaGreatDoor
/- Worlds: the first thing that does not hold, by the document. -/
set_option linter.unusedVariables false
set_option linter.unusedSimpArgs false
set_option maxRecDepth 10000
namespace Go.Ab
theorem any_low {l : List Int} (hl : ∀ s ∈ l, -1 ≤ s) : ∀ i (h : i < l.length), decide (l[i] < 0) = (-1 == l[i]) := fun i h => by
  have := hl _ (List.getElem_mem h)
  by_cases hc : l[i] = -1
  · rw [hc]; rfl
  · have : ¬ l[i] < 0 := by omega
    simp [this]
    omega
theorem err_hit {es : List Int} {i : Nat} {e : Int} (he : es.getD i 0 = e) (h : e ≠ 0) (hb : ∀ j, j < i → es.getD j 0 = 0) : es.findIdx? (fun e => e != 0) = some i := by
  have hi : i < es.length := by
    rcases Nat.lt_or_ge i es.length with h' | h'
    · exact h'
    · exact absurd (by rw [← he]; simp [List.getD, h']) h
  rw [List.findIdx?_eq_some_iff_getElem]
  refine ⟨hi, by rw [← getD_at 0 hi, he]; simpa using h, fun k hk => ?_⟩
  have := hb k hk
  rw [getD_at 0 (by omega)] at this
  simp [this]
theorem err_miss {es : List Int} (hb : ∀ j, j < es.length → es.getD j 0 = 0) : es.findIdx? (fun e => e != 0) = none := by
  rw [List.findIdx?_eq_none_iff]
  intro e he
  obtain ⟨k, hk, rfl⟩ := List.getElem_of_mem he
  have := hb k hk
  rw [getD_at 0 hk] at this
  simp [this]
theorem zeros_none (n : Nat) : (List.replicate n (0 : Int)).findIdx? (fun e => e != 0) = none := by
  rw [List.findIdx?_eq_none_iff]
  intro e he
  rw [(List.mem_replicate.1 he).2]; rfl
theorem err_succ {es : List Int} {i : Nat} (hb : ∀ j, j < i → es.getD j 0 = 0) (h : es.getD i 0 = 0) : ∀ j, j < i + 1 → es.getD j 0 = 0 := fun j hj => by
  rcases Nat.lt_succ_iff_lt_or_eq.1 hj with h' | rfl
  · exact hb j h'
  · exact h
theorem map_getD0 {α : Type} {f : α → Int} {l : List α} {i : Nat} (h : i < l.length) : (l.map f).getD i 0 = f l[i] := by simp [List.getD, h]
def firstW (d : Option (Int × Nat × Nat)) : Wrg := match d with
  | some (e, k, i) => ⟨e, k, i⟩
  | none => ⟨0, 0, 0⟩
end Go.Ab
namespace Go.Proofs.YtmfolelgdpkkoaaGreatDoor
open Go Go.Ab
theorem m_ref09_route (G : GlP) (r : RteO) (hr : RteNum r) : Meets Pg G F_ref09_route [.agg (cRteO r)] [] (.int .i64 (routeE r)) [] := by
  have b1 := hr.len
  have b2 := hr.few
  refine meets_pure (F := fe_ref09_route) hTh hMx func_ref09_route rfl call_ref09_route rfl rfl rfl ?_
  conv => whnf
  refine LoopOK.weak _ _ ?_ ?_ ?_ (LoopOK.ind (fun i : Nat => r.stops.length - i) (fun i => [(1, .ref (F_ref09_route, 1) 0), (3, .int .i64 i)]) (fun _ => [((F_ref09_route, 1), .cells T_api_RouteOf (cRteO r))]) (fun i => i ≤ r.stops.length ∧ ∀ j (h : j < r.stops.length), j < i → (-1 == r.stops[j]) = false) ?_ 0 ⟨by omega, fun j h hj => by omega⟩)
  · exact ⟨rfl, rfl, trivial⟩
  · exact ⟨rfl, trivial⟩
  · rfl
  rintro i ⟨hi, hb⟩ IH
  refine LoopOK.round hTh hMx ?_
  conv => whnf
  refine cond_split (fun h => ?_) (fun hz => ?_)
  · have hlt := lt_of_dec h
    conv => whnf
    refine IndexTo.at (map_at cI hlt) ?_
    conv => whnf
    rw [any_low hr.low i hlt]
    refine cond_split (fun h1 => ?_) (fun h1 => ?_)
    · have e : routeE r = 5 := by
        unfold routeE
        rw [if_pos (List.any_eq_true.2 ⟨_, List.getElem_mem hlt, h1⟩)]
      rw [e]
      conv => whnf
      exact Fin.one hTh rfl (rfl) rfl
    · conv => whnf
      refine WrapTo.i64 (by omega) ?_
      conv => whnf
      refine LoopOK.weak _ _ ?_ ?_ ?_ (IH (i + 1) (by omega) ⟨by omega, fun j h hj => by
        rcases Nat.lt_succ_iff_lt_or_eq.1 hj with h | rfl
        · exact hb j _ h
        · exact h1⟩)
      · exact ⟨rfl, rfl, trivial⟩
      · exact ⟨rfl, trivial⟩
      · rfl
  have hge := le_of_dec hz
  have hno : r.stops.any (fun s => -1 == s) = false := by
    rw [List.any_eq_false]
    intro s hs
    obtain ⟨j, hj, rfl⟩ := List.getElem_of_mem hs
    simp only [Bool.not_eq_true]
    exact hb j hj (by omega)
  conv => whnf
  refine LoopOK.weak _ _ ?_ ?_ ?_ (LoopOK.ind (fun k : Nat => r.rides.length - k) (fun k => [(1, .ref (F_ref09_route, 1) 0), (4, .int .i64 ((k : Int) + 1))])
    (fun k => [((F_ref09_route, 1), .cells T_api_RouteOf (cRteO r))]) (fun k => k ≤ r.rides.length ∧ ∀ j, j < k → rideOdd r j = false) ?_ 0 ⟨by omega, fun j hj => by omega⟩)
  · exact ⟨rfl, rfl, trivial⟩
  · exact ⟨rfl, trivial⟩
  · rfl
  rintro k ⟨hk, hb2⟩ IH
  refine LoopOK.round hTh hMx ?_
  conv => whnf
  have e1 : ((k : Int) + 1).toNat = k + 1 := by omega
  refine cond_split (fun h => ?_) (fun hz => ?_)
  · have hlt : k < r.rides.length := by simp at h; omega
    have hodd : rideOdd r k = true → routeE r = 2 := fun e2 => by
      unfold routeE
      rw [if_neg (by simp [hno]), if_pos (any_range hlt e2)]
    conv => whnf
    refine IndexTo.atD cI 0 (by omega) (by omega) ?_
    conv => whnf
    refine WrapTo.i64 (by omega) ?_
    conv => whnf
    refine IndexTo.atD cI 0 (by omega) (by omega) ?_
    conv => whnf
    refine cond_split (fun h2 => ?_) (fun h2 => ?_)
    · have h2' : (r.stops.getD k 0 == r.stops.getD (k + 1) 0) = true := by
        simp only [Int.toNat_natCast, e1, Int.add_sub_cancel] at h2
        rw [Bool.beq_comm]
        exact h2
      have e : routeE r = 2 := hodd (by unfold rideOdd; rw [h2']; simp)
      rw [e]
      conv => whnf
      refine ⟨by kernel_rfl, ?_⟩
      conv => whnf
      exact Fin.one hTh rfl (rfl) rfl
    · have h2' : (r.stops.getD k 0 == r.stops.getD (k + 1) 0) = false := by
        simp only [Int.toNat_natCast, e1, Int.add_sub_cancel] at h2
        rw [Bool.beq_comm]
        exact h2
      conv => whnf
      refine WrapTo.i64 (by omega) ?_
      conv => whnf
      refine IndexTo.atD cI 0 (by omega) (by omega) ?_
      conv => whnf
      refine ⟨by kernel_rfl, ?_⟩
      conv => whnf
      refine cond_split (fun h3 => ?_) (fun h3 => ?_)
      · have h3' : decide (r.rides.getD k 0 < 1) = true := by
          simp only [Int.toNat_natCast, e1, Int.add_sub_cancel] at h3
          exact h3
        have e : routeE r = 2 := hodd (by unfold rideOdd; rw [h3']; simp)
        rw [e]
        conv => whnf
        exact Fin.one hTh rfl (rfl) rfl
      · have h3' : decide (r.rides.getD k 0 < 1) = false := by
          simp only [Int.toNat_natCast, e1, Int.add_sub_cancel] at h3
          exact h3
        have hno2 : rideOdd r k = false := by unfold rideOdd; rw [h3', h2']; rfl
        conv => whnf
        refine WrapTo.i64 (by omega) ?_
        conv => whnf
        refine LoopOK.weak _ _ ?_ ?_ ?_ (IH (k + 1) (by omega) ⟨by omega, fun j hj => by
          rcases Nat.lt_succ_iff_lt_or_eq.1 hj with h | rfl
          · exact hb2 j h
          · exact hno2⟩)
        · exact ⟨rfl, rfl, trivial⟩
        · exact ⟨rfl, trivial⟩
        · rfl
  have hge2 : r.rides.length ≤ k := by simp at hz; omega
  have e : routeE r = 0 := by
    unfold routeE
    rw [if_neg (by simp [hno]), if_neg (by rw [none_range fun j hj => hb2 j (by omega)]; decide)]
  rw [e]
  conv => whnf
  exact Fin.one hTh rfl (rfl) rfl
def fiT (k : Nat) (i : Int) : TL := [(1, .ref (F_ref09_first, 1) 0), (2, .ref (F_ref09_first, 2) 0), (k, .int .i64 i)]
def fiB (w : Wld) : BL := [((F_ref09_first, 1), .cells T_api_World (cWld w)), ((F_ref09_first, 2), .cells T_api_Wrong [.int .i64 0, .int .i64 0, .int .i64 0])]
theorem m_ref09_first (G : GlP) (w : Wld) (hw : WldFits w) (hN : ∀ r ∈ w.routes, RteNum r) : Meets Pg G F_ref09_first [.agg (cWld w)] [] (.agg (cWrg (firstW (firstS w)))) [] := by
  have b1 := hw.paths
  have b2 := hw.doors
  have b3 := hw.routes
  have b4 := hw.trips
  have b5 := hw.hazards
  have f0 : ([] : List Int).findIdx? (fun e => e != 0) = none := rfl
  have f1 := zeros_none w.names.stops.length
  refine meets_pure (F := fe_ref09_first) hTh hMx func_ref09_first rfl call_ref09_first rfl rfl rfl ?_
  conv => whnf
  refine LoopOK.weak _ _ ?_ ?_ ?_ (LoopOK.ind (fun i : Nat => w.paths.length - i) (fun i => fiT 3 i) (fun _ => fiB w) (fun i => i ≤ w.paths.length ∧ ∀ j, j < i → (w.paths.map pathE).getD j 0 = 0) ?_ 0 ⟨by omega, fun j hj => by omega⟩)
  · exact ⟨rfl, rfl, rfl, trivial⟩
  · exact ⟨rfl, rfl, trivial⟩
  · exact chk_mk ⟨rfl, rfl, rfl, trivial⟩ ⟨rfl, rfl, trivial⟩ rfl
  rintro i ⟨hi, hb⟩ IH
  refine LoopOK.round hTh hMx ?_
  conv => whnf
  refine cond_split (fun h => ?_) (fun hz => ?_)
  · have hlt := lt_of_dec h
    have hg := map_getD0 (f := pathE) hlt
    have bad : ∀ e : Int, pathE w.paths[i] = e → e ≠ 0 → firstW (firstS w) = ⟨e, 2, i⟩ := fun e h1 h2 => by
      simp only [firstS, errAll, errKs, f0, f1, err_hit (hg.trans h1) h2 hb, hg.trans h1]
      rfl
    have IH := fun hh => IH (i + 1) (by omega) ⟨by omega, err_succ hb hh⟩
    rw [hg] at IH
    conv => whnf
    refine IndexTo.at (map_at cPthO hlt) ?_
    conv => whnf
    refine IndexTo.at (map_at cPthO hlt) ?_
    conv => whnf
    refine IndexTo.at (map_at cPthO hlt) ?_
    conv => whnf
    refine CallTo.fn (m_ref09_way G _ _ _) ?_
    conv => whnf
    refine ⟨by kernel_rfl, ?_⟩
    conv => whnf
    refine cond_split (fun h1 => ?_) (fun h1 => ?_)
    · conv => whnf
      refine CallTo.fn (m_ref09_wrong G _ _ _) ?_
      conv => whnf
      conv => whnf
      rw [bad _ (rfl) (by simpa [pathE] using h1)]
      exact fin_wrong hTh rfl ⟨_, 2, i⟩ rfl rfl rfl
    · conv => whnf
      refine WrapTo.i64 (by omega) ?_
      conv => whnf
      refine LoopOK.weak _ _ ?_ ?_ ?_ (IH (by simpa [pathE] using h1))
      · exact ⟨rfl, rfl, rfl, trivial⟩
      · exact ⟨rfl, rfl, trivial⟩
      · exact chk_mk ⟨rfl, rfl, rfl, trivial⟩ ⟨rfl, rfl, trivial⟩ rfl
  have hge := le_of_dec hz
  have f2 : (w.paths.map pathE).findIdx? (fun e => e != 0) = none := err_miss fun j hj => hb j (by simp at hj; omega)
  conv => whnf
  refine LoopOK.weak _ _ ?_ ?_ ?_ (LoopOK.ind (fun i : Nat => w.doors.length - i) (fun i => fiT 5 i) (fun _ => fiB w) (fun i => i ≤ w.doors.length ∧ ∀ j, j < i → (w.doors.map (doorE w.hor)).getD j 0 = 0) ?_ 0 ⟨by omega, fun j hj => by omega⟩)
  · exact ⟨rfl, rfl, rfl, trivial⟩
  · exact ⟨rfl, rfl, trivial⟩
  · exact chk_mk ⟨rfl, rfl, rfl, trivial⟩ ⟨rfl, rfl, trivial⟩ rfl
  rintro i ⟨hi, hb⟩ IH
  refine LoopOK.round hTh hMx ?_
  conv => whnf
  refine cond_split (fun h => ?_) (fun hz => ?_)
  · have hlt := lt_of_dec h
    have hg := map_getD0 (f := doorE w.hor) hlt
    have bad : ∀ e : Int, doorE w.hor w.doors[i] = e → e ≠ 0 → firstW (firstS w) = ⟨e, 3, i⟩ := fun e h1 h2 => by
      simp only [firstS, errAll, errKs, f0, f1, f2, err_hit (hg.trans h1) h2 hb, hg.trans h1]
      rfl
    have IH := fun hh => IH (i + 1) (by omega) ⟨by omega, err_succ hb hh⟩
    rw [hg] at IH
    conv => whnf
    refine IndexTo.at (map_at cDorO hlt) ?_
    conv => whnf
    refine IndexTo.at (map_at cDorO hlt) ?_
    conv => whnf
    refine IndexTo.at (map_at cDorO hlt) ?_
    conv => whnf
    refine CallTo.fn (m_ref09_way G _ _ _) ?_
    conv => whnf
    refine ⟨by kernel_rfl, ?_⟩
    conv => whnf
    refine cond_split (fun h1 => ?_) (fun h1 => ?_)
    · have e1 : doorE w.hor w.doors[i] = winsErr w.doors[i].tm w.hor := by unfold doorE; rw [if_pos (by simpa using h1)]
      conv => whnf
      refine IndexTo.at (map_at cDorO hlt) ?_
      conv => whnf
      refine CallTo.fn (m_ref09_times G _ _) ?_
      conv => whnf
      refine ⟨by kernel_rfl, ?_⟩
      conv => whnf
      refine cond_split (fun h2 => ?_) (fun h2 => ?_)
      · conv => whnf
        refine CallTo.fn (m_ref09_wrong G _ _ _) ?_
        conv => whnf
        conv => whnf
        rw [bad _ (e1) (by simpa using h2)]
        exact fin_wrong hTh rfl ⟨_, 3, i⟩ rfl rfl rfl
      · conv => whnf
        refine WrapTo.i64 (by omega) ?_
        conv => whnf
        refine LoopOK.weak _ _ ?_ ?_ ?_ (IH (by rw [e1]; simpa using h2))
        · exact ⟨rfl, rfl, rfl, trivial⟩
        · exact ⟨rfl, rfl, trivial⟩
        · exact chk_mk ⟨rfl, rfl, rfl, trivial⟩ ⟨rfl, rfl, trivial⟩ rfl
    · have e1 : doorE w.hor w.doors[i] = wayE w.doors[i].a w.doors[i].b w.doors[i].ln := by unfold doorE; rw [if_neg (by simpa using h1)]
      have h2 : ¬ wayE w.doors[i].a w.doors[i].b w.doors[i].ln = 0 := by simpa using h1
      conv => whnf
      refine cond_split (fun h2 => ?_) (fun h2 => ?_)
      · conv => whnf
        refine CallTo.fn (m_ref09_wrong G _ _ _) ?_
        conv => whnf
        conv => whnf
        rw [bad _ (e1) (by simpa using h2)]
        exact fin_wrong hTh rfl ⟨_, 3, i⟩ rfl rfl rfl
      · exact absurd (by simpa using h2) ‹¬ wayE w.doors[i].a w.doors[i].b w.doors[i].ln = 0›
  have hge := le_of_dec hz
  have f3 : (w.doors.map (doorE w.hor)).findIdx? (fun e => e != 0) = none := err_miss fun j hj => hb j (by simp at hj; omega)
  conv => whnf
  refine LoopOK.weak _ _ ?_ ?_ ?_ (LoopOK.ind (fun i : Nat => w.routes.length - i) (fun i => fiT 7 i) (fun _ => fiB w) (fun i => i ≤ w.routes.length ∧ ∀ j, j < i → (w.routes.map routeE).getD j 0 = 0) ?_ 0 ⟨by omega, fun j hj => by omega⟩)
  · exact ⟨rfl, rfl, rfl, trivial⟩
  · exact ⟨rfl, rfl, trivial⟩
  · exact chk_mk ⟨rfl, rfl, rfl, trivial⟩ ⟨rfl, rfl, trivial⟩ rfl
  rintro i ⟨hi, hb⟩ IH
  refine LoopOK.round hTh hMx ?_
  conv => whnf
  refine cond_split (fun h => ?_) (fun hz => ?_)
  · have hlt := lt_of_dec h
    have hg := map_getD0 (f := routeE) hlt
    have bad : ∀ e : Int, routeE w.routes[i] = e → e ≠ 0 → firstW (firstS w) = ⟨e, 4, i⟩ := fun e h1 h2 => by
      simp only [firstS, errAll, errKs, f0, f1, f2, f3, err_hit (hg.trans h1) h2 hb, hg.trans h1]
      rfl
    have IH := fun hh => IH (i + 1) (by omega) ⟨by omega, err_succ hb hh⟩
    rw [hg] at IH
    conv => whnf
    refine IndexTo.at (map_at cRteO hlt) ?_
    conv => whnf
    refine CallTo.fn (m_ref09_route G w.routes[i] (hN _ (List.getElem_mem hlt))) ?_
    conv => whnf
    refine cond_split (fun h1 => ?_) (fun h1 => ?_)
    · conv => whnf
      refine CallTo.fn (m_ref09_wrong G _ _ _) ?_
      conv => whnf
      conv => whnf
      rw [bad _ (rfl) (by simpa using h1)]
      exact fin_wrong hTh rfl ⟨_, 4, i⟩ rfl rfl rfl
    · conv => whnf
      refine WrapTo.i64 (by omega) ?_
      conv => whnf
      refine LoopOK.weak _ _ ?_ ?_ ?_ (IH (by simpa using h1))
      · exact ⟨rfl, rfl, rfl, trivial⟩
      · exact ⟨rfl, rfl, trivial⟩
      · exact chk_mk ⟨rfl, rfl, rfl, trivial⟩ ⟨rfl, rfl, trivial⟩ rfl
  have hge := le_of_dec hz
  have f4 : (w.routes.map routeE).findIdx? (fun e => e != 0) = none := err_miss fun j hj => hb j (by simp at hj; omega)
  conv => whnf
  refine LoopOK.weak _ _ ?_ ?_ ?_ (LoopOK.ind (fun i : Nat => w.trips.length - i) (fun i => fiT 9 i) (fun _ => fiB w) (fun i => i ≤ w.trips.length ∧ ∀ j, j < i → (w.trips.map tripE).getD j 0 = 0) ?_ 0 ⟨by omega, fun j hj => by omega⟩)
  · exact ⟨rfl, rfl, rfl, trivial⟩
  · exact ⟨rfl, rfl, trivial⟩
  · exact chk_mk ⟨rfl, rfl, rfl, trivial⟩ ⟨rfl, rfl, trivial⟩ rfl
  rintro i ⟨hi, hb⟩ IH
  refine LoopOK.round hTh hMx ?_
  conv => whnf
  refine cond_split (fun h => ?_) (fun hz => ?_)
  · have hlt := lt_of_dec h
    have hg := map_getD0 (f := tripE) hlt
    have bad : ∀ e : Int, tripE w.trips[i] = e → e ≠ 0 → firstW (firstS w) = ⟨e, 5, i⟩ := fun e h1 h2 => by
      simp only [firstS, errAll, errKs, f0, f1, f2, f3, f4, err_hit (hg.trans h1) h2 hb, hg.trans h1]
      rfl
    have IH := fun hh => IH (i + 1) (by omega) ⟨by omega, err_succ hb hh⟩
    rw [hg] at IH
    conv => whnf
    refine IndexTo.at (map_at cTrpO hlt) ?_
    conv => whnf
    refine cond_split (fun h1 => ?_) (fun h1 => ?_)
    · have e1 : tripE w.trips[i] = 5 := by simp at h1; simp [tripE, h1]
      conv => whnf
      refine CallTo.fn (m_ref09_wrong G _ _ _) ?_
      conv => whnf
      conv => whnf
      rw [bad 5 (e1) (by decide)]
      exact fin_wrong hTh rfl ⟨_, 5, i⟩ rfl rfl rfl
    · conv => whnf
      refine cond_split (fun h2 => ?_) (fun h2 => ?_)
      · have e1 : tripE w.trips[i] = 2 := by simp at h1 h2; simp [tripE, h2]; omega
        conv => whnf
        refine CallTo.fn (m_ref09_wrong G _ _ _) ?_
        conv => whnf
        conv => whnf
        rw [bad 2 (e1) (by decide)]
        exact fin_wrong hTh rfl ⟨_, 5, i⟩ rfl rfl rfl
      · conv => whnf
        refine WrapTo.i64 (by omega) ?_
        conv => whnf
        refine LoopOK.weak _ _ ?_ ?_ ?_ (IH (by simp at h1 h2; simp [tripE]; omega))
        · exact ⟨rfl, rfl, rfl, trivial⟩
        · exact ⟨rfl, rfl, trivial⟩
        · exact chk_mk ⟨rfl, rfl, rfl, trivial⟩ ⟨rfl, rfl, trivial⟩ rfl
  have hge := le_of_dec hz
  have f5 : (w.trips.map tripE).findIdx? (fun e => e != 0) = none := err_miss fun j hj => hb j (by simp at hj; omega)
  conv => whnf
  refine LoopOK.weak _ _ ?_ ?_ ?_ (LoopOK.ind (fun i : Nat => w.hazards.length - i) (fun i => fiT 11 i) (fun _ => fiB w) (fun i => i ≤ w.hazards.length ∧ ∀ j, j < i → (w.hazards.map (hazE w.hor)).getD j 0 = 0) ?_ 0 ⟨by omega, fun j hj => by omega⟩)
  · exact ⟨rfl, rfl, rfl, trivial⟩
  · exact ⟨rfl, rfl, trivial⟩
  · exact chk_mk ⟨rfl, rfl, rfl, trivial⟩ ⟨rfl, rfl, trivial⟩ rfl
  rintro i ⟨hi, hb⟩ IH
  refine LoopOK.round hTh hMx ?_
  conv => whnf
  refine cond_split (fun h => ?_) (fun hz => ?_)
  · have hlt := lt_of_dec h
    have hg := map_getD0 (f := hazE w.hor) hlt
    have bad : ∀ e : Int, hazE w.hor w.hazards[i] = e → e ≠ 0 → firstW (firstS w) = ⟨e, 6, i⟩ := fun e h1 h2 => by
      simp only [firstS, errAll, errKs, f0, f1, f2, f3, f4, f5, err_hit (hg.trans h1) h2 hb, hg.trans h1]
      rfl
    have IH := fun hh => IH (i + 1) (by omega) ⟨by omega, err_succ hb hh⟩
    rw [hg] at IH
    conv => whnf
    refine IndexTo.at (map_at cHzdO hlt) ?_
    conv => whnf
    refine CallTo.fn (m_ref09_times G _ _) ?_
    conv => whnf
    refine ⟨by kernel_rfl, ?_⟩
    conv => whnf
    refine IndexTo.at (map_at cHzdO hlt) ?_
    conv => whnf
    refine cond_split (fun h1 => ?_) (fun h1 => ?_)
    · have e1 : hazE w.hor w.hazards[i] = 5 := by simp at h1; simp [hazE, h1]
      conv => whnf
      refine CallTo.fn (m_ref09_wrong G _ _ _) ?_
      conv => whnf
      conv => whnf
      rw [bad 5 (e1) (by decide)]
      exact fin_wrong hTh rfl ⟨_, 6, i⟩ rfl rfl rfl
    · have e1 : hazE w.hor w.hazards[i] = winsErr w.hazards[i].tm w.hor := by simp at h1; simp [hazE]; omega
      conv => whnf
      refine cond_split (fun h2 => ?_) (fun h2 => ?_)
      · conv => whnf
        refine CallTo.fn (m_ref09_wrong G _ _ _) ?_
        conv => whnf
        conv => whnf
        rw [bad _ (e1) (by simpa using h2)]
        exact fin_wrong hTh rfl ⟨_, 6, i⟩ rfl rfl rfl
      · conv => whnf
        refine WrapTo.i64 (by omega) ?_
        conv => whnf
        refine LoopOK.weak _ _ ?_ ?_ ?_ (IH (by rw [e1]; simpa using h2))
        · exact ⟨rfl, rfl, rfl, trivial⟩
        · exact ⟨rfl, rfl, trivial⟩
        · exact chk_mk ⟨rfl, rfl, rfl, trivial⟩ ⟨rfl, rfl, trivial⟩ rfl
  have hge := le_of_dec hz
  have f6 : (w.hazards.map (hazE w.hor)).findIdx? (fun e => e != 0) = none := err_miss fun j hj => hb j (by simp at hj; omega)
  conv => whnf
  have e : firstW (firstS w) = ⟨0, 0, 0⟩ := by simp only [firstS, errAll, errKs, f0, f1, f2, f3, f4, f5, f6]; rfl
  rw [e]
  exact fin_wrong hTh rfl ⟨0, 0, 0⟩ rfl rfl rfl
end Go.Proofs.YtmfolelgdpkkoaaGreatDoor
/- Worlds: made out of a sheet, by the document. -/
set_option linter.unusedVariables false
set_option linter.unusedSimpArgs false
set_option maxRecDepth 10000
namespace Go.Ab
theorem wrongS_none {w : Wld} (h : dupS w.names = none) : wrongS w = firstW (firstS w) := by unfold wrongS firstW; rw [h] <;> rfl
theorem wrongS_some {w : Wld} {d : Nat × Nat} (h : dupS w.names = some d) : wrongS w = dupW (dupS w.names) := by unfold wrongS dupW; rw [h]
end Go.Ab
namespace Go.Proofs.YtmfolelgdpkkoaaGreatDoor
open Go Go.Ab
theorem m_ref09_Make (G : GlP) (hR : Res G) (x : Sht) (hx : ShtFits x) : Meets Pg G F_ref09_Make [.agg (cSht x)] [] (.tup [.agg (cWld (makeW x)), .agg (cWrg (makeE x))]) [] := by
  refine meets_pure (F := fe_ref09_Make) hTh hMx func_ref09_Make rfl call_ref09_Make rfl rfl rfl ?_
  conv => whnf
  refine CallTo.fn (m_ref05_Check G x hx) ?_
  conv => whnf
  refine cond_split (fun h => ?_) (fun h => ?_)
  · have h' : shtErr x ≠ 0 := by simpa using h
    have e1 : makeW x = wld0 := by simp [makeW, h']
    have e2 : makeE x = ⟨shtErr x, 0, 0⟩ := by simp [makeE, h']
    rw [e1, e2]
    conv => whnf
    refine CallTo.fn (m_ref09_wrong G _ _ _) ?_
    conv => whnf
    exact fin_make hTh rfl rfl wld0 ⟨shtErr x, 0, 0⟩ zWld rfl rfl rfl rfl rfl rfl le_zWld
  have h' : shtErr x = 0 := by simpa using h
  have hN := numb_of hx (shtOK_of h')
  conv => whnf
  refine CallTo.fn (m_ref09_numbered G x hx) ?_
  conv => whnf
  refine CallTo.fn (m_ref09_twice G (numW x).names (by have := hN.few; omega)) ?_
  conv => whnf
  cases hd : dupS (numW x).names with
  | some d =>
    have hw := wrongS_some hd
    rw [hd] at hw
    have h2' : (wrongS (numW x)).err ≠ 0 := by rw [hw]; exact (by decide : (6 : Int) ≠ 0)
    have e1 : makeW x = wld0 := by simp [makeW, h2']
    have e2 : makeE x = dupW (some d) := by unfold makeE; rw [if_pos h', if_neg h2', hw]
    rw [e1, e2]
    conv => whnf
    refine ⟨by kernel_rfl, ?_⟩
    conv => whnf
    exact fin_make hTh rfl rfl wld0 (dupW (some d)) zWld rfl rfl rfl rfl rfl rfl le_zWld
  | none =>
    have hw := wrongS_none hd
    conv => whnf
    refine CallTo.fn (m_ref09_first G (numW x) hN.fits hN.nums) ?_
    conv => whnf
    refine cond_split (fun h2 => ?_) (fun h2 => ?_)
    · have h2' : (wrongS (numW x)).err ≠ 0 := by rw [hw]; simpa using h2
      have e1 : makeW x = wld0 := by simp [makeW, h2']
      have e2 : makeE x = firstW (firstS (numW x)) := by unfold makeE; rw [if_pos h', if_neg h2', hw]
      rw [e1, e2]
      conv => whnf
      refine ⟨by kernel_rfl, ?_⟩
      conv => whnf
      exact fin_make hTh rfl rfl wld0 (firstW (firstS (numW x))) zWld rfl rfl rfl rfl rfl rfl le_zWld
    have h2' : (wrongS (numW x)).err = 0 := by rw [hw]; simpa using h2
    have e1 : makeW x = numW x := by simp [makeW, h', h2']
    have e2 : makeE x = ⟨0, 0, 0⟩ := by simp [makeE, h', h2']
    rw [e1, e2]
    conv => whnf
    exact fin_make hTh rfl rfl (numW x) ⟨0, 0, 0⟩ (cWld (numW x)) rfl rfl rfl rfl rfl rfl (.refl _)
end Go.Proofs.YtmfolelgdpkkoaaGreatDoor
/- Worlds: the sheet that a whole world tells, by the document. -/
set_option linter.unusedVariables false
set_option linter.unusedSimpArgs false
set_option maxRecDepth 10000
namespace Go.Proofs.YtmfolelgdpkkoaaGreatDoor
open Go Go.Ab
theorem m_ref09_told (G : GlP) (w : Wld) (hw : WldFits w) (hs : Sound w) : Meets Pg G F_ref09_told [.agg (cWld w)] [] (.agg (cSht (toldS w))) [] := by
  have n0 := hw.names.stops
  have b1 := hw.paths
  have b2 := hw.doors
  have b3 := hw.routes
  have b4 := hw.trips
  have b5 := hw.hazards
  refine meets_pure (F := { fe_ref09_told with stops := [19, 31] }) hTh hMx func_ref09_told rfl call_ref09_told rfl rfl rfl ?_
  conv => whnf
  refine ⟨by simp only [List.length_map]; omega, ?_⟩
  conv => whnf
  refine ⟨by kernel_rfl, ?_⟩
  conv => whnf
  refine LoopOK.less [((F_ref09_told, 20), .row T_string 1 (w.names.stops.map cS))] [(1, .ref (F_ref09_told, 1) 0), (2, .ref (F_ref09_told, 2) 0), (3, .ref (F_ref09_told, 3) 0), (4, .ref (F_ref09_told, 4) 0), (5, .int .i64 0)] [((F_ref09_told, 1), .cells T_api_World (cWld w)), ((F_ref09_told, 2), .cells T_api_Sheet (zcells ty_api_Sheet)), ((F_ref09_told, 3), .cells T_api_Names (cNms w.names)), ((F_ref09_told, 4), .cells T_api_Sheet [(.int .i64 w.hor), (.lst 1 (w.names.stops.map cS)), .emp, .emp, .emp, .emp, .emp])]
    ⟨.refl _, .refl _, .refl _, .refl _, .refl _, trivial⟩ ⟨⟨_, rfl, .refl _⟩, ⟨_, rfl, .refl _⟩, ⟨_, rfl, .refl _⟩, ⟨_, rfl, .cells (.cons (.refl _) (.cons (.own List.mem_cons_self rfl) (.refl _)))⟩, trivial⟩ ⟨rfl, Clo.map fS _, rfl, trivial⟩ rfl ?_
  refine LoopOK.conv (Conv.empOwnBox (F_ref09_told, 4) 2 rfl rfl (F_ref09_told, 64) rfl T_api_Path 4) ?_
  refine LoopOK.weak _ _ ?_ ?_ ?_ (LoopOK.ind (fun i : Nat => w.paths.length - i) (fun i => [(1, .ref (F_ref09_told, 1) 0), (2, .ref (F_ref09_told, 2) 0), (3, .ref (F_ref09_told, 3) 0), (4, .ref (F_ref09_told, 4) 0), (5, .int .i64 i)]) (fun i => [((F_ref09_told, 1), .cells T_api_World (cWld w)), ((F_ref09_told, 2), .cells T_api_Sheet (zcells ty_api_Sheet)), ((F_ref09_told, 3), .cells T_api_Names (cNms w.names)), ((F_ref09_told, 4), .cells T_api_Sheet [(.int .i64 w.hor), (.lst 1 (w.names.stops.map cS)), (.own (F_ref09_told, 64) i), .emp, .emp, .emp, .emp]), ((F_ref09_told, 64), .row T_api_Path 4 (((List.range i).map (tPth w)).map cPth))]) (fun i => i ≤ w.paths.length) ?_ 0 (by omega))
  · exact ⟨rfl, rfl, rfl, rfl, rfl, trivial⟩
  · exact ⟨rfl, rfl, rfl, rfl, rfl, trivial⟩
  · exact chk_mk ⟨rfl, rfl, rfl, rfl, rfl, trivial⟩ ⟨rfl, rfl, rfl, rfl, cloX_row (l := (0, 0)) (e := 0) (sz := 0) (by rw [List.map_map]; exact Clo.map (fun y_ => fPth ((tPth w) y_)) _), trivial⟩ rfl
  intro i1 hi1 IH
  refine LoopOK.round hTh hMx ?_
  conv => whnf
  refine cond_split (fun h => ?_) (fun hz1 => ?_)
  · have hlt := lt_of_dec h
    have hA : inB (w.paths.getD i1 ⟨0, 0, 0⟩).a w.names.stops.length = true ∧ inB (w.paths.getD i1 ⟨0, 0, 0⟩).b w.names.stops.length = true := by have := hs.pathA _ (List.getElem_mem hlt); simpa [hlt] using this
    conv => whnf
    refine IndexTo.at (map_atD cS [] (show i1 < w.names.paths.length by have := hs.paths; omega)) ?_
    conv => whnf
    refine IndexTo.at (map_atD cPthO ⟨0, 0, 0⟩ hlt) ?_
    conv => whnf
    refine IndexTo.atD cS [] (inB_spec hA.1).1 (inB_spec hA.1).2 ?_
    conv => whnf
    refine IndexTo.at (map_atD cPthO ⟨0, 0, 0⟩ hlt) ?_
    conv => whnf
    refine IndexTo.atD cS [] (inB_spec hA.2).1 (inB_spec hA.2).2 ?_
    conv => whnf
    refine IndexTo.at (map_atD cPthO ⟨0, 0, 0⟩ hlt) ?_
    conv => whnf
    refine ⟨by simp only [List.length_map, List.length_range], by simp only [List.length_cons, List.length_nil]; omega, ?_⟩
    conv => whnf
    refine ⟨by kernel_rfl, ?_⟩
    conv => whnf
    refine WrapTo.i64 (by omega) ?_
    conv => whnf
    refine LoopOK.weak _ _ ?_ ?_ ?_ (IH (i1 + 1) (by omega) (by omega))
    · exact ⟨rfl, rfl, rfl, rfl, rfl, trivial⟩
    · exact ⟨rfl, rfl, rfl, rfl, congrArg (fun z => some (ABox.row T_api_Path 4 z)) (map_range_succ), trivial⟩
    · exact chk_mk ⟨rfl, rfl, rfl, rfl, rfl, trivial⟩ ⟨rfl, rfl, rfl, rfl, cloX_row (l := (0, 0)) (e := 0) (sz := 0) (by rw [List.map_map]; exact Clo.map (fun y_ => fPth ((tPth w) y_)) _), trivial⟩ rfl
  have hge1 := le_of_dec hz1
  conv => whnf
  obtain rfl : i1 = w.paths.length := by omega
  refine LoopOK.less [((F_ref09_told, 64), .row T_api_Path 4 (((List.range w.paths.length).map (tPth w)).map cPth))] [(1, .ref (F_ref09_told, 1) 0), (2, .ref (F_ref09_told, 2) 0), (3, .ref (F_ref09_told, 3) 0), (4, .ref (F_ref09_told, 4) 0), (6, .int .i64 0)] [((F_ref09_told, 1), .cells T_api_World (cWld w)), ((F_ref09_told, 2), .cells T_api_Sheet (zcells ty_api_Sheet)), ((F_ref09_told, 3), .cells T_api_Names (cNms w.names)), ((F_ref09_told, 4), .cells T_api_Sheet [(.int .i64 w.hor), (.lst 1 (w.names.stops.map cS)), (.lst 4 (((List.range w.paths.length).map (tPth w)).map cPth)), .emp, .emp, .emp, .emp])] ⟨.refl _, .refl _, .refl _, .refl _, .refl _, trivial⟩ ⟨⟨_, rfl, .refl _⟩, ⟨_, rfl, .refl _⟩, ⟨_, rfl, .refl _⟩, ⟨_, rfl, .cells (.cons (.refl _) (.cons (.refl _) (.cons (.own List.mem_cons_self (by simp only [List.length_map, List.length_range])) (.refl _))))⟩, trivial⟩ ⟨rfl, (by rw [List.map_map]; exact Clo.map (fun y_ => fPth ((tPth w) y_)) _), rfl, trivial⟩ (rfl) ?_
  refine LoopOK.conv (Conv.empOwnBox (F_ref09_told, 4) 3 rfl rfl (F_ref09_told, 114) rfl T_api_Door 7) ?_
  refine LoopOK.weak _ _ ?_ ?_ ?_ (LoopOK.ind (fun i : Nat => w.doors.length - i) (fun i => [(1, .ref (F_ref09_told, 1) 0), (2, .ref (F_ref09_told, 2) 0), (3, .ref (F_ref09_told, 3) 0), (4, .ref (F_ref09_told, 4) 0), (6, .int .i64 i)]) (fun i => [((F_ref09_told, 1), .cells T_api_World (cWld w)), ((F_ref09_told, 2), .cells T_api_Sheet (zcells ty_api_Sheet)), ((F_ref09_told, 3), .cells T_api_Names (cNms w.names)), ((F_ref09_told, 4), .cells T_api_Sheet [(.int .i64 w.hor), (.lst 1 (w.names.stops.map cS)), (.lst 4 (((List.range w.paths.length).map (tPth w)).map cPth)), (.own (F_ref09_told, 114) i), .emp, .emp, .emp]), ((F_ref09_told, 114), .row T_api_Door 7 (((List.range i).map (tDor w)).map cDor))]) (fun i => i ≤ w.doors.length) ?_ 0 (by omega))
  · exact ⟨rfl, rfl, rfl, rfl, rfl, trivial⟩
  · exact ⟨rfl, rfl, rfl, rfl, rfl, trivial⟩
  · exact chk_mk ⟨rfl, rfl, rfl, rfl, rfl, trivial⟩ ⟨rfl, rfl, rfl, rfl, cloX_row (l := (0, 0)) (e := 0) (sz := 0) (by rw [List.map_map]; exact Clo.map (fun y_ => fDor ((tDor w) y_)) _), trivial⟩ rfl
  intro i2 hi2 IH
  refine LoopOK.round hTh hMx ?_
  conv => whnf
  refine cond_split (fun h => ?_) (fun hz2 => ?_)
  · have hlt := lt_of_dec h
    have hA : inB (w.doors.getD i2 ⟨0, 0, 0, nil0⟩).a w.names.stops.length = true ∧ inB (w.doors.getD i2 ⟨0, 0, 0, nil0⟩).b w.names.stops.length = true := by have := hs.doorA _ (List.getElem_mem hlt); simpa [hlt] using this
    conv => whnf
    refine IndexTo.at (map_atD cS [] (show i2 < w.names.doors.length by have := hs.doors; omega)) ?_
    conv => whnf
    refine IndexTo.at (map_atD cDorO ⟨0, 0, 0, nil0⟩ hlt) ?_
    conv => whnf
    refine IndexTo.atD cS [] (inB_spec hA.1).1 (inB_spec hA.1).2 ?_
    conv => whnf
    refine IndexTo.at (map_atD cDorO ⟨0, 0, 0, nil0⟩ hlt) ?_
    conv => whnf
    refine IndexTo.atD cS [] (inB_spec hA.2).1 (inB_spec hA.2).2 ?_
    conv => whnf
    refine IndexTo.at (map_atD cDorO ⟨0, 0, 0, nil0⟩ hlt) ?_
    conv => whnf
    refine IndexTo.at (map_atD cDorO ⟨0, 0, 0, nil0⟩ hlt) ?_
    conv => whnf
    refine ⟨by simp only [List.length_map, List.length_range], by simp only [List.length_cons, List.length_nil]; omega, ?_⟩
    conv => whnf
    refine ⟨by kernel_rfl, ?_⟩
    conv => whnf
    refine WrapTo.i64 (by omega) ?_
    conv => whnf
    refine LoopOK.weak _ _ ?_ ?_ ?_ (IH (i2 + 1) (by omega) (by omega))
    · exact ⟨rfl, rfl, rfl, rfl, rfl, trivial⟩
    · exact ⟨rfl, rfl, rfl, rfl, congrArg (fun z => some (ABox.row T_api_Door 7 z)) (map_range_succ), trivial⟩
    · exact chk_mk ⟨rfl, rfl, rfl, rfl, rfl, trivial⟩ ⟨rfl, rfl, rfl, rfl, cloX_row (l := (0, 0)) (e := 0) (sz := 0) (by rw [List.map_map]; exact Clo.map (fun y_ => fDor ((tDor w) y_)) _), trivial⟩ rfl
  have hge2 := le_of_dec hz2
  conv => whnf
  obtain rfl : i2 = w.doors.length := by omega
  refine LoopOK.less [((F_ref09_told, 114), .row T_api_Door 7 (((List.range w.doors.length).map (tDor w)).map cDor))] [(1, .ref (F_ref09_told, 1) 0), (2, .ref (F_ref09_told, 2) 0), (3, .ref (F_ref09_told, 3) 0), (4, .ref (F_ref09_told, 4) 0), (7, .int .i64 0)] [((F_ref09_told, 1), .cells T_api_World (cWld w)), ((F_ref09_told, 2), .cells T_api_Sheet (zcells ty_api_Sheet)), ((F_ref09_told, 3), .cells T_api_Names (cNms w.names)), ((F_ref09_told, 4), .cells T_api_Sheet [(.int .i64 w.hor), (.lst 1 (w.names.stops.map cS)), (.lst 4 (((List.range w.paths.length).map (tPth w)).map cPth)), (.lst 7 (((List.range w.doors.length).map (tDor w)).map cDor)), .emp, .emp, .emp])] ⟨.refl _, .refl _, .refl _, .refl _, .refl _, trivial⟩ ⟨⟨_, rfl, .refl _⟩, ⟨_, rfl, .refl _⟩, ⟨_, rfl, .refl _⟩, ⟨_, rfl, .cells (.cons (.refl _) (.cons (.refl _) (.cons (.refl _) (.cons (.own List.mem_cons_self (by simp only [List.length_map, List.length_range])) (.refl _)))))⟩, trivial⟩ ⟨rfl, (by rw [List.map_map]; exact Clo.map (fun y_ => fDor ((tDor w) y_)) _), rfl, trivial⟩ (rfl) ?_
  refine LoopOK.conv (Conv.empOwnBox (F_ref09_told, 4) 4 rfl rfl (F_ref09_told, 178) rfl T_api_Route 4) ?_
  refine LoopOK.weak _ _ ?_ ?_ ?_ (LoopOK.ind (fun i : Nat => w.routes.length - i) (fun i => [(1, .ref (F_ref09_told, 1) 0), (2, .ref (F_ref09_told, 2) 0), (3, .ref (F_ref09_told, 3) 0), (4, .ref (F_ref09_told, 4) 0), (7, .int .i64 i)]) (fun i => [((F_ref09_told, 1), .cells T_api_World (cWld w)), ((F_ref09_told, 2), .cells T_api_Sheet (zcells ty_api_Sheet)), ((F_ref09_told, 3), .cells T_api_Names (cNms w.names)), ((F_ref09_told, 4), .cells T_api_Sheet [(.int .i64 w.hor), (.lst 1 (w.names.stops.map cS)), (.lst 4 (((List.range w.paths.length).map (tPth w)).map cPth)), (.lst 7 (((List.range w.doors.length).map (tDor w)).map cDor)), (.own (F_ref09_told, 178) i), .emp, .emp]), ((F_ref09_told, 178), .row T_api_Route 4 (((List.range i).map (tRte w)).map cRte))]) (fun i => i ≤ w.routes.length) ?_ 0 (by omega))
  · exact ⟨rfl, rfl, rfl, rfl, rfl, trivial⟩
  · exact ⟨rfl, rfl, rfl, rfl, rfl, trivial⟩
  · exact chk_mk ⟨rfl, rfl, rfl, rfl, rfl, trivial⟩ ⟨rfl, rfl, rfl, rfl, cloX_row (l := (0, 0)) (e := 0) (sz := 0) (by rw [List.map_map]; exact Clo.map (fun y => fRte (tRte w y)) _), trivial⟩ rfl
  intro i3 hi3 IH3
  refine LoopOK.round hTh hMx ?_
  conv => whnf
  refine cond_split (fun h => ?_) (fun hz3 => ?_)
  · have hlt3 := lt_of_dec h
    have hA : ∀ s ∈ (w.routes.getD i3 ⟨[], [], []⟩).stops, inB s w.names.stops.length = true := by have := hs.routeA _ (List.getElem_mem hlt3); simpa [hlt3] using this
    have hr : RteOFits (w.routes.getD i3 ⟨[], [], []⟩) := by have := hw.each _ (List.getElem_mem hlt3); simpa [hlt3] using this
    have r0 := hr.stops
    have r1 := hr.rides
    have r2 := hr.stays
    conv => whnf
    refine IndexTo.at (map_atD cS [] (show i3 < w.names.routes.length by have := hs.routes; omega)) ?_
    conv => whnf
    refine IndexTo.at (map_atD cRteO ⟨[], [], []⟩ hlt3) ?_
    conv => whnf
    refine ⟨by simp only [List.length_map]; omega, ?_⟩
    conv => whnf
    refine IndexTo.at (map_atD cRteO ⟨[], [], []⟩ hlt3) ?_
    conv => whnf
    refine ⟨by simp only [List.length_map]; omega, ?_⟩
    conv => whnf
    refine ⟨by kernel_rfl, ?_⟩
    conv => whnf
    refine LoopOK.less [((F_ref09_told, 135), .row T_i64 1 ((w.routes.getD i3 ⟨[], [], []⟩).rides.map cI)), ((F_ref09_told, 143), .row T_i64 1 ((w.routes.getD i3 ⟨[], [], []⟩).stays.map cI))] [(1, .ref (F_ref09_told, 1) 0), (2, .ref (F_ref09_told, 2) 0), (3, .ref (F_ref09_told, 3) 0), (4, .ref (F_ref09_told, 4) 0), (7, .int .i64 i3), (8, .ref (F_ref09_told, 8) 0), (9, .int .i64 0)]
      [((F_ref09_told, 1), .cells T_api_World (cWld w)), ((F_ref09_told, 2), .cells T_api_Sheet (zcells ty_api_Sheet)), ((F_ref09_told, 3), .cells T_api_Names (cNms w.names)), ((F_ref09_told, 4), .cells T_api_Sheet [(.int .i64 w.hor), (.lst 1 (w.names.stops.map cS)), (.lst 4 (((List.range w.paths.length).map (tPth w)).map cPth)), (.lst 7 (((List.range w.doors.length).map (tDor w)).map cDor)), (.own (F_ref09_told, 178) i3), .emp, .emp]), ((F_ref09_told, 178), .row T_api_Route 4 (((List.range i3).map (tRte w)).map cRte)), ((F_ref09_told, 8), .cells T_api_Route [.str (w.names.routes.getD i3 []), .emp, .lst 1 ((w.routes.getD i3 ⟨[], [], []⟩).rides.map cI), .lst 1 ((w.routes.getD i3 ⟨[], [], []⟩).stays.map cI)])]
      ⟨.refl _, .refl _, .refl _, .refl _, .refl _, .refl _, .refl _, trivial⟩ ⟨⟨_, rfl, .refl _⟩, ⟨_, rfl, .refl _⟩, ⟨_, rfl, .refl _⟩, ⟨_, rfl, .refl _⟩, ⟨_, rfl, .refl _⟩, ⟨_, rfl, .cells (.cons (.refl _) (.cons (.refl _) (.cons (.own List.mem_cons_self rfl) (.cons (.own (List.mem_cons_of_mem _ List.mem_cons_self) rfl) (.refl _)))))⟩, trivial⟩
      ⟨rfl, Clo.map fI _, rfl, rfl, Clo.map fI _, rfl, trivial⟩ (chk_mk ⟨rfl, rfl, rfl, rfl, rfl, rfl, rfl, trivial⟩ ⟨rfl, rfl, rfl, rfl, cloX_row (l := (0, 0)) (e := 0) (sz := 0) (by rw [List.map_map]; exact Clo.map (fun y => fRte (tRte w y)) _), rfl, trivial⟩ rfl) ?_
    refine LoopOK.conv (Conv.empOwnBox (F_ref09_told, 8) 1 rfl rfl (F_ref09_told, 172) rfl T_string 1) ?_
    refine LoopOK.weak _ _ ?_ ?_ ?_ (LoopOK.ind (fun i : Nat => (w.routes.getD i3 ⟨[], [], []⟩).stops.length - i) (fun i => [(1, .ref (F_ref09_told, 1) 0), (2, .ref (F_ref09_told, 2) 0), (3, .ref (F_ref09_told, 3) 0), (4, .ref (F_ref09_told, 4) 0), (7, .int .i64 i3), (8, .ref (F_ref09_told, 8) 0), (9, .int .i64 i)]) (fun i => [((F_ref09_told, 1), .cells T_api_World (cWld w)), ((F_ref09_told, 2), .cells T_api_Sheet (zcells ty_api_Sheet)), ((F_ref09_told, 3), .cells T_api_Names (cNms w.names)), ((F_ref09_told, 4), .cells T_api_Sheet [(.int .i64 w.hor), (.lst 1 (w.names.stops.map cS)), (.lst 4 (((List.range w.paths.length).map (tPth w)).map cPth)), (.lst 7 (((List.range w.doors.length).map (tDor w)).map cDor)), (.own (F_ref09_told, 178) i3), .emp, .emp]), ((F_ref09_told, 178), .row T_api_Route 4 (((List.range i3).map (tRte w)).map cRte)), ((F_ref09_told, 8), .cells T_api_Route [.str (w.names.routes.getD i3 []), (.own (F_ref09_told, 172) i), .lst 1 ((w.routes.getD i3 ⟨[], [], []⟩).rides.map cI), .lst 1 ((w.routes.getD i3 ⟨[], [], []⟩).stays.map cI)]), ((F_ref09_told, 172), .row T_string 1 ((((w.routes.getD i3 ⟨[], [], []⟩).stops.take i).map (fun s : Int => w.names.stops.getD s.toNat [])).map cS))]) (fun i => i ≤ (w.routes.getD i3 ⟨[], [], []⟩).stops.length) ?_ 0 (by omega))
    · exact ⟨rfl, rfl, rfl, rfl, rfl, rfl, rfl, trivial⟩
    · exact ⟨rfl, rfl, rfl, rfl, rfl, rfl, rfl, trivial⟩
    · exact chk_mk ⟨rfl, rfl, rfl, rfl, rfl, rfl, rfl, trivial⟩ ⟨rfl, rfl, rfl, rfl, cloX_row (l := (0, 0)) (e := 0) (sz := 0) (by rw [List.map_map]; exact Clo.map (fun y => fRte (tRte w y)) _), rfl, cloX_row (l := (0, 0)) (e := 0) (sz := 0) (by rw [List.map_map]; exact Clo.map (fun y_ => fS ((fun s : Int => w.names.stops.getD s.toNat []) y_)) _), trivial⟩ rfl
    intro i4 hi4 IH
    refine LoopOK.round hTh hMx ?_
    conv => whnf
    refine IndexTo.at (map_atD cRteO ⟨[], [], []⟩ hlt3) ?_
    conv => whnf
    refine cond_split (fun h => ?_) (fun hz4 => ?_)
    · have hlt := lt_of_dec h
      have hB := inB_spec (hA _ (List.getElem_mem hlt))
      conv => whnf
      refine IndexTo.at (map_atD cRteO ⟨[], [], []⟩ hlt3) ?_
      conv => whnf
      refine IndexTo.at (map_at cI hlt) ?_
      conv => whnf
      refine IndexTo.atD cS [] hB.1 hB.2 ?_
      conv => whnf
      refine ⟨by simp only [List.length_map, List.length_take]; omega, by simp only [List.length_cons, List.length_nil]; omega, ?_⟩
      conv => whnf
      refine ⟨by kernel_rfl, ?_⟩
      conv => whnf
      refine WrapTo.i64 (by omega) ?_
      conv => whnf
      refine LoopOK.weak _ _ ?_ ?_ ?_ (IH (i4 + 1) (by omega) (by omega))
      · exact ⟨rfl, rfl, rfl, rfl, rfl, rfl, rfl, trivial⟩
      · exact ⟨rfl, rfl, rfl, rfl, rfl, rfl, congrArg (fun z => some (ABox.row T_string 1 z)) (map_succ2 hlt), trivial⟩
      · exact chk_mk ⟨rfl, rfl, rfl, rfl, rfl, rfl, rfl, trivial⟩ ⟨rfl, rfl, rfl, rfl, cloX_row (l := (0, 0)) (e := 0) (sz := 0) (by rw [List.map_map]; exact Clo.map (fun y => fRte (tRte w y)) _), rfl, cloX_row (l := (0, 0)) (e := 0) (sz := 0) (by rw [List.map_map]; exact Clo.map (fun y_ => fS ((fun s : Int => w.names.stops.getD s.toNat []) y_)) _), trivial⟩ rfl
    have hge4 := le_of_dec hz4
    conv => whnf
    rw [List.take_of_length_le hge4]
    refine CodeTo.less [((F_ref09_told, 172), .row T_string 1 (((w.routes.getD i3 ⟨[], [], []⟩).stops.map (fun s : Int => w.names.stops.getD s.toNat [])).map cS))] [(1, .ref (F_ref09_told, 1) 0), (2, .ref (F_ref09_told, 2) 0), (3, .ref (F_ref09_told, 3) 0), (4, .ref (F_ref09_told, 4) 0), (7, .int .i64 i3), (8, .ref (F_ref09_told, 8) 0)] [((F_ref09_told, 1), .cells T_api_World (cWld w)), ((F_ref09_told, 2), .cells T_api_Sheet (zcells ty_api_Sheet)), ((F_ref09_told, 3), .cells T_api_Names (cNms w.names)), ((F_ref09_told, 4), .cells T_api_Sheet [(.int .i64 w.hor), (.lst 1 (w.names.stops.map cS)), (.lst 4 (((List.range w.paths.length).map (tPth w)).map cPth)), (.lst 7 (((List.range w.doors.length).map (tDor w)).map cDor)), (.own (F_ref09_told, 178) i3), .emp, .emp]), ((F_ref09_told, 178), .row T_api_Route 4 (((List.range i3).map (tRte w)).map cRte)), ((F_ref09_told, 8), .cells T_api_Route [.str (w.names.routes.getD i3 []), (.lst 1 (((w.routes.getD i3 ⟨[], [], []⟩).stops.map (fun s : Int => w.names.stops.getD s.toNat [])).map cS)), .lst 1 ((w.routes.getD i3 ⟨[], [], []⟩).rides.map cI), .lst 1 ((w.routes.getD i3 ⟨[], [], []⟩).stays.map cI)])] ⟨.refl _, .refl _, .refl _, .refl _, .refl _, .refl _, trivial⟩ ⟨⟨_, rfl, .refl _⟩, ⟨_, rfl, .refl _⟩, ⟨_, rfl, .refl _⟩, ⟨_, rfl, .refl _⟩, ⟨_, rfl, .refl _⟩, ⟨_, rfl, .cells (.cons (.refl _) (.cons (.own List.mem_cons_self (by simp only [List.length_map]; omega)) (.refl _)))⟩, trivial⟩ ⟨rfl, (by rw [List.map_map]; exact Clo.map (fun y_ => fS ((fun s : Int => w.names.stops.getD s.toNat []) y_)) _), rfl, trivial⟩ (chk_mk ⟨rfl, rfl, rfl, rfl, rfl, rfl, trivial⟩ ⟨rfl, rfl, rfl, rfl, cloX_row (l := (0, 0)) (e := 0) (sz := 0) (by rw [List.map_map]; exact Clo.map (fun y => fRte (tRte w y)) _), rfl, trivial⟩ rfl) ?_
    refine CodeTo.go hTh hMx ?_
    conv => whnf
    refine ⟨by simp only [List.length_map, List.length_range], by simp only [List.length_cons, List.length_nil]; omega, ?_⟩
    conv => whnf
    refine WrapTo.i64 (by omega) ?_
    conv => whnf
    refine LoopOK.weak _ _ ?_ ?_ ?_ (IH3 (i3 + 1) (by omega) (by omega))
    · exact ⟨rfl, rfl, rfl, rfl, rfl, trivial⟩
    · exact ⟨rfl, rfl, rfl, rfl, congrArg (fun z => some (ABox.row T_api_Route 4 z)) (map_range_succ), trivial⟩
    · exact chk_mk ⟨rfl, rfl, rfl, rfl, rfl, trivial⟩ ⟨rfl, rfl, rfl, rfl, cloX_row (l := (0, 0)) (e := 0) (sz := 0) (by rw [List.map_map]; exact Clo.map (fun y => fRte (tRte w y)) _), trivial⟩ rfl
  have hge3 := le_of_dec hz3
  conv => whnf
  obtain rfl : i3 = w.routes.length := by omega
  refine LoopOK.less [((F_ref09_told, 178), .row T_api_Route 4 (((List.range w.routes.length).map (tRte w)).map cRte))] [(1, .ref (F_ref09_told, 1) 0), (2, .ref (F_ref09_told, 2) 0), (3, .ref (F_ref09_told, 3) 0), (4, .ref (F_ref09_told, 4) 0), (10, .int .i64 0)] [((F_ref09_told, 1), .cells T_api_World (cWld w)), ((F_ref09_told, 2), .cells T_api_Sheet (zcells ty_api_Sheet)), ((F_ref09_told, 3), .cells T_api_Names (cNms w.names)), ((F_ref09_told, 4), .cells T_api_Sheet [(.int .i64 w.hor), (.lst 1 (w.names.stops.map cS)), (.lst 4 (((List.range w.paths.length).map (tPth w)).map cPth)), (.lst 7 (((List.range w.doors.length).map (tDor w)).map cDor)), (.lst 4 (((List.range w.routes.length).map (tRte w)).map cRte)), .emp, .emp])] ⟨.refl _, .refl _, .refl _, .refl _, .refl _, trivial⟩ ⟨⟨_, rfl, .refl _⟩, ⟨_, rfl, .refl _⟩, ⟨_, rfl, .refl _⟩, ⟨_, rfl, .cells (.cons (.refl _) (.cons (.refl _) (.cons (.refl _) (.cons (.refl _) (.cons (.own List.mem_cons_self (by simp only [List.length_map, List.length_range])) (.refl _))))))⟩, trivial⟩ ⟨rfl, (by rw [List.map_map]; exact Clo.map (fun y => fRte (tRte w y)) _), rfl, trivial⟩ rfl ?_
  refine LoopOK.conv (Conv.empOwnBox (F_ref09_told, 4) 5 rfl rfl (F_ref09_told, 224) rfl T_api_Trip 5) ?_
  refine LoopOK.weak _ _ ?_ ?_ ?_ (LoopOK.ind (fun i : Nat => w.trips.length - i) (fun i => [(1, .ref (F_ref09_told, 1) 0), (2, .ref (F_ref09_told, 2) 0), (3, .ref (F_ref09_told, 3) 0), (4, .ref (F_ref09_told, 4) 0), (10, .int .i64 i)]) (fun i => [((F_ref09_told, 1), .cells T_api_World (cWld w)), ((F_ref09_told, 2), .cells T_api_Sheet (zcells ty_api_Sheet)), ((F_ref09_told, 3), .cells T_api_Names (cNms w.names)), ((F_ref09_told, 4), .cells T_api_Sheet [(.int .i64 w.hor), (.lst 1 (w.names.stops.map cS)), (.lst 4 (((List.range w.paths.length).map (tPth w)).map cPth)), (.lst 7 (((List.range w.doors.length).map (tDor w)).map cDor)), (.lst 4 (((List.range w.routes.length).map (tRte w)).map cRte)), (.own (F_ref09_told, 224) i), .emp]), ((F_ref09_told, 224), .row T_api_Trip 5 (((List.range i).map (tTrp w)).map cTrp))]) (fun i => i ≤ w.trips.length) ?_ 0 (by omega))
  · exact ⟨rfl, rfl, rfl, rfl, rfl, trivial⟩
  · exact ⟨rfl, rfl, rfl, rfl, rfl, trivial⟩
  · exact chk_mk ⟨rfl, rfl, rfl, rfl, rfl, trivial⟩ ⟨rfl, rfl, rfl, rfl, cloX_row (l := (0, 0)) (e := 0) (sz := 0) (by rw [List.map_map]; exact Clo.map (fun y_ => fTrp ((tTrp w) y_)) _), trivial⟩ rfl
  intro i5 hi5 IH
  refine LoopOK.round hTh hMx ?_
  conv => whnf
  refine cond_split (fun h => ?_) (fun hz5 => ?_)
  · have hlt := lt_of_dec h
    have hA : inB (w.trips.getD i5 ⟨0, 0, 0, 0⟩).route w.names.routes.length = true := by have := hs.tripA _ (List.getElem_mem hlt); simpa [hlt] using this
    conv => whnf
    refine IndexTo.at (map_atD cS [] (show i5 < w.names.trips.length by have := hs.trips; omega)) ?_
    conv => whnf
    refine IndexTo.at (map_atD cTrpO ⟨0, 0, 0, 0⟩ hlt) ?_
    conv => whnf
    refine IndexTo.atD cS [] (inB_spec hA).1 (inB_spec hA).2 ?_
    conv => whnf
    refine IndexTo.at (map_atD cTrpO ⟨0, 0, 0, 0⟩ hlt) ?_
    conv => whnf
    refine IndexTo.at (map_atD cTrpO ⟨0, 0, 0, 0⟩ hlt) ?_
    conv => whnf
    refine IndexTo.at (map_atD cTrpO ⟨0, 0, 0, 0⟩ hlt) ?_
    conv => whnf
    refine ⟨by simp only [List.length_map, List.length_range], by simp only [List.length_cons, List.length_nil]; omega, ?_⟩
    conv => whnf
    refine ⟨by kernel_rfl, ?_⟩
    conv => whnf
    refine WrapTo.i64 (by omega) ?_
    conv => whnf
    refine LoopOK.weak _ _ ?_ ?_ ?_ (IH (i5 + 1) (by omega) (by omega))
    · exact ⟨rfl, rfl, rfl, rfl, rfl, trivial⟩
    · exact ⟨rfl, rfl, rfl, rfl, congrArg (fun z => some (ABox.row T_api_Trip 5 z)) (map_range_succ), trivial⟩
    · exact chk_mk ⟨rfl, rfl, rfl, rfl, rfl, trivial⟩ ⟨rfl, rfl, rfl, rfl, cloX_row (l := (0, 0)) (e := 0) (sz := 0) (by rw [List.map_map]; exact Clo.map (fun y_ => fTrp ((tTrp w) y_)) _), trivial⟩ rfl
  have hge5 := le_of_dec hz5
  conv => whnf
  obtain rfl : i5 = w.trips.length := by omega
  refine LoopOK.less [((F_ref09_told, 224), .row T_api_Trip 5 (((List.range w.trips.length).map (tTrp w)).map cTrp))] [(1, .ref (F_ref09_told, 1) 0), (2, .ref (F_ref09_told, 2) 0), (3, .ref (F_ref09_told, 3) 0), (4, .ref (F_ref09_told, 4) 0), (11, .int .i64 0)] [((F_ref09_told, 1), .cells T_api_World (cWld w)), ((F_ref09_told, 2), .cells T_api_Sheet (zcells ty_api_Sheet)), ((F_ref09_told, 3), .cells T_api_Names (cNms w.names)), ((F_ref09_told, 4), .cells T_api_Sheet [(.int .i64 w.hor), (.lst 1 (w.names.stops.map cS)), (.lst 4 (((List.range w.paths.length).map (tPth w)).map cPth)), (.lst 7 (((List.range w.doors.length).map (tDor w)).map cDor)), (.lst 4 (((List.range w.routes.length).map (tRte w)).map cRte)), (.lst 5 (((List.range w.trips.length).map (tTrp w)).map cTrp)), .emp])] ⟨.refl _, .refl _, .refl _, .refl _, .refl _, trivial⟩ ⟨⟨_, rfl, .refl _⟩, ⟨_, rfl, .refl _⟩, ⟨_, rfl, .refl _⟩, ⟨_, rfl, .cells (.cons (.refl _) (.cons (.refl _) (.cons (.refl _) (.cons (.refl _) (.cons (.refl _) (.cons (.own List.mem_cons_self (by simp only [List.length_map, List.length_range])) (.refl _)))))))⟩, trivial⟩ ⟨rfl, (by rw [List.map_map]; exact Clo.map (fun y_ => fTrp ((tTrp w) y_)) _), rfl, trivial⟩ (rfl) ?_
  refine LoopOK.conv (Conv.empOwnBox (F_ref09_told, 4) 6 rfl rfl (F_ref09_told, 267) rfl T_api_Hazard 5) ?_
  refine LoopOK.weak _ _ ?_ ?_ ?_ (LoopOK.ind (fun i : Nat => w.hazards.length - i) (fun i => [(1, .ref (F_ref09_told, 1) 0), (2, .ref (F_ref09_told, 2) 0), (3, .ref (F_ref09_told, 3) 0), (4, .ref (F_ref09_told, 4) 0), (11, .int .i64 i)]) (fun i => [((F_ref09_told, 1), .cells T_api_World (cWld w)), ((F_ref09_told, 2), .cells T_api_Sheet (zcells ty_api_Sheet)), ((F_ref09_told, 3), .cells T_api_Names (cNms w.names)), ((F_ref09_told, 4), .cells T_api_Sheet [(.int .i64 w.hor), (.lst 1 (w.names.stops.map cS)), (.lst 4 (((List.range w.paths.length).map (tPth w)).map cPth)), (.lst 7 (((List.range w.doors.length).map (tDor w)).map cDor)), (.lst 4 (((List.range w.routes.length).map (tRte w)).map cRte)), (.lst 5 (((List.range w.trips.length).map (tTrp w)).map cTrp)), (.own (F_ref09_told, 267) i)]), ((F_ref09_told, 267), .row T_api_Hazard 5 (((List.range i).map (tHzd w)).map cHzd))]) (fun i => i ≤ w.hazards.length) ?_ 0 (by omega))
  · exact ⟨rfl, rfl, rfl, rfl, rfl, trivial⟩
  · exact ⟨rfl, rfl, rfl, rfl, rfl, trivial⟩
  · exact chk_mk ⟨rfl, rfl, rfl, rfl, rfl, trivial⟩ ⟨rfl, rfl, rfl, rfl, cloX_row (l := (0, 0)) (e := 0) (sz := 0) (by rw [List.map_map]; exact Clo.map (fun y_ => fHzd ((tHzd w) y_)) _), trivial⟩ rfl
  intro i6 hi6 IH
  refine LoopOK.round hTh hMx ?_
  conv => whnf
  refine cond_split (fun h => ?_) (fun hz6 => ?_)
  · have hlt := lt_of_dec h
    have hA : inB (w.hazards.getD i6 ⟨false, 0, nil0⟩).on (if (w.hazards.getD i6 ⟨false, 0, nil0⟩).stop then w.names.stops.length else w.names.paths.length) = true := by have := hs.hazardA _ (List.getElem_mem hlt); simpa [hlt] using this
    conv => whnf
    refine IndexTo.at (map_atD cHzdO ⟨false, 0, nil0⟩ hlt) ?_
    conv => whnf
    refine cond_split (fun hc => ?_) (fun hc => ?_)
    · have e1 : tHzd w i6 = ⟨w.names.hazards.getD i6 [], w.names.stops.getD (w.hazards.getD i6 ⟨false, 0, nil0⟩).on.toNat [], (w.hazards.getD i6 ⟨false, 0, nil0⟩).tm⟩ := by unfold tHzd; simp only; rw [if_pos hc]
      have hB : inB (w.hazards.getD i6 ⟨false, 0, nil0⟩).on w.names.stops.length = true := by rw [if_pos hc] at hA; exact hA
      conv => whnf
      refine IndexTo.at (map_atD cS [] (show i6 < w.names.hazards.length by have := hs.hazards; omega)) ?_
      conv => whnf
      refine IndexTo.at (map_atD cHzdO ⟨false, 0, nil0⟩ hlt) ?_
      conv => whnf
      refine IndexTo.atD cS [] (inB_spec hB).1 (inB_spec hB).2 ?_
      conv => whnf
      refine IndexTo.at (map_atD cHzdO ⟨false, 0, nil0⟩ hlt) ?_
      conv => whnf
      refine ⟨by simp only [List.length_map, List.length_range], by simp only [List.length_cons, List.length_nil]; omega, ?_⟩
      conv => whnf
      refine ⟨by kernel_rfl, ?_⟩
      conv => whnf
      refine WrapTo.i64 (by omega) ?_
      conv => whnf
      refine LoopOK.weak _ _ ?_ ?_ ?_ (IH (i6 + 1) (by omega) (by omega))
      · exact ⟨rfl, rfl, rfl, rfl, rfl, trivial⟩
      · exact ⟨rfl, rfl, rfl, rfl, congrArg (fun z => some (ABox.row T_api_Hazard 5 z)) (by rw [← map_range_succ, e1]; rfl), trivial⟩
      · exact chk_mk ⟨rfl, rfl, rfl, rfl, rfl, trivial⟩ ⟨rfl, rfl, rfl, rfl, cloX_row (l := (0, 0)) (e := 0) (sz := 0) (by rw [List.map_map]; exact Clo.map (fun y_ => fHzd ((tHzd w) y_)) _), trivial⟩ rfl
    · have e1 : tHzd w i6 = ⟨w.names.hazards.getD i6 [], w.names.paths.getD (w.hazards.getD i6 ⟨false, 0, nil0⟩).on.toNat [], (w.hazards.getD i6 ⟨false, 0, nil0⟩).tm⟩ := by unfold tHzd; simp only; rw [if_neg (by rw [hc]; exact Bool.false_ne_true)]
      have hB : inB (w.hazards.getD i6 ⟨false, 0, nil0⟩).on w.names.paths.length = true := by rw [if_neg (by rw [hc]; exact Bool.false_ne_true)] at hA; exact hA
      conv => whnf
      refine IndexTo.at (map_atD cS [] (show i6 < w.names.hazards.length by have := hs.hazards; omega)) ?_
      conv => whnf
      refine IndexTo.at (map_atD cHzdO ⟨false, 0, nil0⟩ hlt) ?_
      conv => whnf
      refine IndexTo.atD cS [] (inB_spec hB).1 (inB_spec hB).2 ?_
      conv => whnf
      refine IndexTo.at (map_atD cHzdO ⟨false, 0, nil0⟩ hlt) ?_
      conv => whnf
      refine ⟨by simp only [List.length_map, List.length_range], by simp only [List.length_cons, List.length_nil]; omega, ?_⟩
      conv => whnf
      refine ⟨by kernel_rfl, ?_⟩
      conv => whnf
      refine WrapTo.i64 (by omega) ?_
      conv => whnf
      refine LoopOK.weak _ _ ?_ ?_ ?_ (IH (i6 + 1) (by omega) (by omega))
      · exact ⟨rfl, rfl, rfl, rfl, rfl, trivial⟩
      · exact ⟨rfl, rfl, rfl, rfl, congrArg (fun z => some (ABox.row T_api_Hazard 5 z)) (by rw [← map_range_succ, e1]; rfl), trivial⟩
      · exact chk_mk ⟨rfl, rfl, rfl, rfl, rfl, trivial⟩ ⟨rfl, rfl, rfl, rfl, cloX_row (l := (0, 0)) (e := 0) (sz := 0) (by rw [List.map_map]; exact Clo.map (fun y_ => fHzd ((tHzd w) y_)) _), trivial⟩ rfl
  have hge6 := le_of_dec hz6
  conv => whnf
  obtain rfl : i6 = w.hazards.length := by omega
  refine CodeTo.less [((F_ref09_told, 267), .row T_api_Hazard 5 (((List.range w.hazards.length).map (tHzd w)).map cHzd))] [(1, .ref (F_ref09_told, 1) 0), (2, .ref (F_ref09_told, 2) 0), (3, .ref (F_ref09_told, 3) 0), (4, .ref (F_ref09_told, 4) 0)] [((F_ref09_told, 1), .cells T_api_World (cWld w)), ((F_ref09_told, 2), .cells T_api_Sheet (zcells ty_api_Sheet)), ((F_ref09_told, 3), .cells T_api_Names (cNms w.names)), ((F_ref09_told, 4), .cells T_api_Sheet [(.int .i64 w.hor), (.lst 1 (w.names.stops.map cS)), (.lst 4 (((List.range w.paths.length).map (tPth w)).map cPth)), (.lst 7 (((List.range w.doors.length).map (tDor w)).map cDor)), (.lst 4 (((List.range w.routes.length).map (tRte w)).map cRte)), (.lst 5 (((List.range w.trips.length).map (tTrp w)).map cTrp)), (.lst 5 (((List.range w.hazards.length).map (tHzd w)).map cHzd))])] ⟨.refl _, .refl _, .refl _, .refl _, trivial⟩ ⟨⟨_, rfl, .refl _⟩, ⟨_, rfl, .refl _⟩, ⟨_, rfl, .refl _⟩, ⟨_, rfl, .cells (.cons (.refl _) (.cons (.refl _) (.cons (.refl _) (.cons (.refl _) (.cons (.refl _) (.cons (.refl _) (.cons (.own List.mem_cons_self (by simp only [List.length_map, List.length_range])) (.refl _))))))))⟩, trivial⟩ ⟨rfl, (by rw [List.map_map]; exact Clo.map (fun y_ => fHzd ((tHzd w) y_)) _), rfl, trivial⟩ (rfl) ?_
  refine CodeTo.go hTh hMx ?_
  conv => whnf
  exact Fin.pure hTh [.agg (cSht (toldS w))] rfl rfl rfl
end Go.Proofs.YtmfolelgdpkkoaaGreatDoor
/- Worlds: checked and told, by the program and by the document. -/
set_option linter.unusedVariables false
set_option linter.unusedSimpArgs false
set_option maxRecDepth 10000
namespace Go.Ab
def checkS (w : Wld) : Wrg := if wholeS w then makeE (toldS w) else ⟨2, 0, 0⟩
def sht0 : Sht := ⟨0, [], [], [], [], [], []⟩
def sheetS (w : Wld) : Sht := if (checkS w).err = 0 then toldS w else sht0
structure ShtSmall (x : Sht) : Prop where
  stops : x.stops.length ≤ 60
  paths : x.paths.length ≤ 60
  doors : x.doors.length ≤ 60
  routes : x.routes.length ≤ 60
  trips : x.trips.length ≤ 60
  hazards : x.hazards.length ≤ 60
  each : ∀ r ∈ x.routes, r.stops.length ≤ 60 ∧ r.rides.length ≤ 60 ∧ r.stays.length ≤ 60
  strs : ∀ s ∈ namesL x, s.length ≤ 9223372036854775807
structure WldSmall (w : Wld) : Prop where
  stops : w.names.stops.length ≤ 60
  npaths : w.names.paths.length ≤ 60
  ndoors : w.names.doors.length ≤ 60
  nroutes : w.names.routes.length ≤ 60
  ntrips : w.names.trips.length ≤ 60
  nhazards : w.names.hazards.length ≤ 60
  paths : w.paths.length ≤ 60
  doors : w.doors.length ≤ 60
  routes : w.routes.length ≤ 60
  trips : w.trips.length ≤ 60
  hazards : w.hazards.length ≤ 60
  each : ∀ r ∈ w.routes, r.stops.length ≤ 60 ∧ r.rides.length ≤ 60 ∧ r.stays.length ≤ 60
  strs : ∀ l ∈ nmK w.names, ∀ s ∈ l, s.length ≤ 9223372036854775807
theorem flat_le {α β : Type} {f : α → List β} {k : Nat} : ∀ {l : List α}, (∀ a ∈ l, (f a).length ≤ k) → (l.flatMap f).length ≤ l.length * k
  | [], _ => by simp
  | a :: l, h => by
    have h1 := h a List.mem_cons_self
    have h2 := flat_le (l := l) fun b hb => h b (List.mem_cons_of_mem _ hb)
    rw [List.flatMap_cons, List.length_append, List.length_cons, Nat.succ_mul]
    omega
theorem ShtSmall.fits {x : Sht} (h : ShtSmall x) : ShtFits x := by
  have a1 := h.stops
  have a2 := h.paths
  have a3 := h.doors
  have a4 := h.routes
  have a5 := h.trips
  have a6 := h.hazards
  have p1 : (x.paths.flatMap nmPth).length ≤ x.paths.length * 3 := flat_le fun _ _ => Nat.le_refl _
  have p2 : (x.doors.flatMap nmDor).length ≤ x.doors.length * 3 := flat_le fun _ _ => Nat.le_refl _
  have p3 : (x.routes.flatMap nmRte).length ≤ x.routes.length * 61 := flat_le fun r hr => by have := h.each r hr; simp only [nmRte, List.length_cons]; omega
  have p4 : (x.trips.flatMap nmTrp).length ≤ x.trips.length * 2 := flat_le fun _ _ => Nat.le_refl _
  have p5 : (x.hazards.flatMap nmHzd).length ≤ x.hazards.length * 2 := flat_le fun _ _ => Nat.le_refl _
  have q1 : (x.paths.flatMap nuPth).length ≤ x.paths.length * 1 := flat_le fun _ _ => Nat.le_refl _
  have q2 : (x.doors.flatMap nuDor).length ≤ x.doors.length * 4 := flat_le fun _ _ => Nat.le_refl _
  have q3 : (x.routes.flatMap nuRte).length ≤ x.routes.length * 120 := flat_le fun r hr => by have := h.each r hr; simp only [nuRte, List.length_append]; omega
  have q4 : (x.trips.flatMap nuTrp).length ≤ x.trips.length * 3 := flat_le fun _ _ => Nat.le_refl _
  have q5 : (x.hazards.flatMap nuHzd).length ≤ x.hazards.length * 3 := flat_le fun _ _ => Nat.le_refl _
  refine ⟨by omega, by omega, by omega, by omega, by omega, by omega, fun r hr => ?_, h.strs, ?_, ?_⟩
  · have := h.each r hr
    exact ⟨by omega, by omega, by omega⟩
  · simp only [namesL, List.length_append]; omega
  · simp only [numbersL, List.length_append, List.length_cons, List.length_nil]; omega
theorem WldSmall.fits {w : Wld} (h : WldSmall w) : WldFits w := by
  have a1 := h.stops
  have a2 := h.npaths
  have a3 := h.ndoors
  have a4 := h.nroutes
  have a5 := h.ntrips
  have a6 := h.nhazards
  have b2 := h.paths
  have b3 := h.doors
  have b4 := h.routes
  have b5 := h.trips
  have b6 := h.hazards
  refine ⟨⟨by omega, by omega, by omega, by omega, by omega, by omega⟩, by omega, by omega, by omega, by omega, by omega, fun r hr => ?_⟩
  have := h.each r hr
  exact ⟨by omega, by omega, by omega⟩
theorem getD_small {l : List Str} (h : ∀ s ∈ l, s.length ≤ 9223372036854775807) (i : Nat) : (l.getD i []).length ≤ 9223372036854775807 := by
  by_cases hi : i < l.length
  · rw [getD_at [] hi]; exact h _ (List.getElem_mem hi)
  · simp [List.getD, Nat.le_of_not_lt hi]
theorem told_small {w : Wld} (h : WldSmall w) : ShtSmall (toldS w) := by
  have n1 := h.strs w.names.stops (by simp [nmK])
  have n2 := h.strs w.names.paths (by simp [nmK])
  have n3 := h.strs w.names.doors (by simp [nmK])
  have n4 := h.strs w.names.routes (by simp [nmK])
  have n5 := h.strs w.names.trips (by simp [nmK])
  have n6 := h.strs w.names.hazards (by simp [nmK])
  refine ⟨h.stops, ?_, ?_, ?_, ?_, ?_, fun r hr => ?_, fun s hs => ?_⟩
  · simpa [toldS] using h.paths
  · simpa [toldS] using h.doors
  · simpa [toldS] using h.routes
  · simpa [toldS] using h.trips
  · simpa [toldS] using h.hazards
  · simp only [toldS, List.mem_map, List.mem_range] at hr
    obtain ⟨i, hi, rfl⟩ := hr
    have := h.each _ (List.getElem_mem hi)
    simpa [tRte, hi] using this
  · simp only [namesL, List.mem_append, List.mem_flatMap, toldS, List.mem_map, List.mem_range] at hs
    rcases hs with ((((hs | ⟨q, ⟨i, hi, rfl⟩, hs⟩) | ⟨q, ⟨i, hi, rfl⟩, hs⟩) | ⟨q, ⟨i, hi, rfl⟩, hs⟩) | ⟨q, ⟨i, hi, rfl⟩, hs⟩) | ⟨q, ⟨i, hi, rfl⟩, hs⟩
    · exact n1 s hs
    · simp only [nmPth, tPth, List.mem_cons, List.not_mem_nil, or_false] at hs
      rcases hs with rfl | rfl | rfl
      · exact getD_small n2 _
      · exact getD_small n1 _
      · exact getD_small n1 _
    · simp only [nmDor, tDor, List.mem_cons, List.not_mem_nil, or_false] at hs
      rcases hs with rfl | rfl | rfl
      · exact getD_small n3 _
      · exact getD_small n1 _
      · exact getD_small n1 _
    · simp only [nmRte, tRte, List.mem_cons, List.mem_map] at hs
      rcases hs with rfl | ⟨a, _, rfl⟩
      · exact getD_small n4 _
      · exact getD_small n1 _
    · simp only [nmTrp, tTrp, List.mem_cons, List.not_mem_nil, or_false] at hs
      rcases hs with rfl | rfl
      · exact getD_small n5 _
      · exact getD_small n4 _
    · simp only [nmHzd, tHzd, List.mem_cons, List.not_mem_nil, or_false] at hs
      rcases hs with rfl | rfl
      · exact getD_small n6 _
      · split
        · exact getD_small n1 _
        · exact getD_small n2 _
theorem light_small {x : Sht} (h : lightS x 60 = true) (hs : ∀ s ∈ namesL x, s.length ≤ 9223372036854775807) : ShtSmall x := by
  simp only [lightS, Bool.and_eq_true, Bool.not_eq_true', manyS, Bool.or_eq_false_iff, decide_eq_false_iff_not] at h
  obtain ⟨⟨⟨⟨⟨⟨a1, a2⟩, a3⟩, a4⟩, a5⟩, a6⟩, a7⟩ := h
  refine ⟨by omega, by omega, by omega, by omega, by omega, by omega, fun r hr => ?_, hs⟩
  have := List.any_eq_false.1 a7 r hr
  simp [lightR] at this
  omega
theorem light_smallW {w : Wld} (h : lightW w 60 = true) (hs : ∀ l ∈ nmK w.names, ∀ s ∈ l, s.length ≤ 9223372036854775807) : WldSmall w := by
  simp only [lightW, Bool.and_eq_true, Bool.not_eq_true', manyN, manyW, Bool.or_eq_false_iff, decide_eq_false_iff_not] at h
  obtain ⟨⟨⟨⟨⟨⟨⟨a1, a2⟩, a3⟩, a4⟩, a5⟩, a6⟩, ⟨⟨⟨b1, b2⟩, b3⟩, b4⟩, b5⟩, c⟩ := h
  refine ⟨by omega, by omega, by omega, by omega, by omega, by omega, by omega, by omega, by omega, by omega, by omega, fun r hr => ?_, hs⟩
  have := List.any_eq_false.1 c r hr
  simp [heavyR] at this
  omega
abbrev zSht : List AV := [.int .i64 0, .emp, .emp, .emp, .emp, .emp, .emp]
theorem le_zSht {Z : ZL} : LeL Z zSht (cSht sht0) := .cons (.refl _) (.cons (.emp 1) (.cons (.emp 4) (.cons (.emp 7) (.cons (.emp 4) (.cons (.emp 5) (.cons (.emp 5) (.refl _)))))))
end Go.Ab
namespace Go.Proofs.YtmfolelgdpkkoaaGreatDoor
open Go Go.Ab
theorem m_ref09_Check (G : GlP) (hR : Res G) (w : Wld) (hw : WldSmall w) : Meets Pg G F_ref09_Check [.agg (cWld w)] [] (.agg (cWrg (checkS w))) [] := by
  refine meets_pure (F := fe_ref09_Check) hTh hMx func_ref09_Check rfl call_ref09_Check rfl rfl rfl ?_
  conv => whnf
  refine CallTo.fn (m_ref09_whole G w hw.fits) ?_
  conv => whnf
  cases h : wholeS w
  · have e : checkS w = ⟨2, 0, 0⟩ := by simp [checkS, h]
    rw [e]
    conv => whnf
    refine CallTo.fn (m_ref09_wrong G _ _ _) ?_
    conv => whnf
    exact fin_wrong hTh rfl ⟨2, 0, 0⟩ rfl rfl rfl
  have e : checkS w = makeE (toldS w) := by simp [checkS, h]
  rw [e]
  conv => whnf
  refine CallTo.fn (m_ref09_told G w hw.fits (sound_of h)) ?_
  conv => whnf
  refine CallTo.fn (m_ref09_Make G hR (toldS w) ((told_small hw).fits)) ?_
  conv => whnf
  exact fin_wrong hTh rfl (makeE (toldS w)) rfl rfl rfl
theorem m_world_Check (G : GlP) (hR : Res G) (w : Wld) (hw : WldSmall w) : Meets Pg G F_world_Check [.agg (cWld w)] [] (.agg (cWrg (checkS w))) [] := by
  refine meets_pure (F := fe_world_Check) hTh hMx func_world_Check rfl call_world_Check rfl rfl rfl ?_
  conv => whnf
  refine CallTo.fn (m_world_whole G w hw.fits) ?_
  conv => whnf
  cases h : wholeS w
  · have e : checkS w = ⟨2, 0, 0⟩ := by simp [checkS, h]
    rw [e]
    conv => whnf
    exact fin_wrong hTh rfl ⟨2, 0, 0⟩ rfl rfl rfl
  have e : checkS w = makeE (toldS w) := by simp [checkS, h]
  rw [e]
  conv => whnf
  refine CallTo.fn (m_world_told G w hw.fits (sound_of h)) ?_
  conv => whnf
  refine CallTo.fn (m_world_Make G hR (toldS w) ((told_small hw).fits)) ?_
  conv => whnf
  exact fin_wrong hTh rfl (makeE (toldS w)) rfl rfl rfl
theorem fin_sheet {G : GlP} {F : FE} {fn : Func} {T : TL} {L : BL} (hΘ : TTok Pg F.Θ) (hw : F.Θ T_api_Sheet = some ty_api_Sheet) (x : Sht) (e : Int) (cs : List AV) (hres : fn.results.toList = [.cell 2 T_api_Sheet, .tmp 3]) {l : Lbl}
    (hT : getT T 2 = .ref l 0) (hT' : getT T 3 = .int .i64 e) (hL : getL L l = some (.cells T_api_Sheet cs)) (hc : LeL [] cs (cSht x)) :
    Fin Pg G F [] fn (.tup [.agg (cSht x), .int .i64 e]) [] T L := by
  refine Fin.less [] [(2, .ref l 0), (3, .int .i64 e)] [(l, .cells T_api_Sheet (cSht x))] ⟨by rw [hT]; exact .refl _, by rw [hT']; exact .refl _, trivial⟩ ⟨⟨_, hL, .cells hc⟩, trivial⟩ trivial
    (chk_mk ⟨by simp [cloB, keyB, getL, lbeq_iff.2 rfl], rfl, trivial⟩ ⟨rfl, trivial⟩ rfl) ?_
  refine Fin.pure hΘ [.agg (cSht x), .int .i64 e] ?_ rfl rfl
  have L2 : getL [(l, .cells T_api_Sheet (cSht x))] l = some (.cells T_api_Sheet (cSht x)) := by simp [getL, lbeq_iff.2 rfl]
  have g2 : getT [(2, .ref l 0), (3, .int .i64 e)] 2 = .ref l 0 := rfl
  have g3 : getT [(2, .ref l 0), (3, .int .i64 e)] 3 = .int .i64 e := rfl
  have t2 : takeV ty_api_Sheet ((cSht x).drop 0) = some (.agg (cSht x)) := rfl
  rw [hres]
  simp only [resA, hw, g2, g3, L2, t2]
end Go.Proofs.YtmfolelgdpkkoaaGreatDoor
/- Runs of trips: what a world that may be is known by; runs, counts, all runs, in plain data. -/
set_option linter.unusedVariables false
set_option linter.unusedSimpArgs false
set_option maxRecDepth 10000
namespace Go.Ab
/-- What is known of a world that may be. -/
structure WldGood (w : Wld) : Prop where
  sound : Sound w
  hor : tickOK w.hor = true
  rlen : ∀ r ∈ w.routes, r.rides.length + 1 = r.stops.length ∧ r.stays.length + 2 = r.stops.length ∧ r.stops.length ≤ 32
  rides : ∀ r ∈ w.routes, ∀ n ∈ r.rides, tickOK n = true
  stays : ∀ r ∈ w.routes, ∀ n ∈ r.stays, tickOK n = true
  trips : ∀ t ∈ w.trips, tickOK t.fr = true ∧ tickOK t.ev = true ∧ tickOK t.un = true
  few : w.trips.length ≤ 1024
theorem congr2 {α β γ : Type} (f : α → β → γ) {a a' : α} {b b' : β} (h : a = a') (h' : b = b') : f a b = f a' b' := by
  subst h h'
  rfl
theorem getD_in {α : Type} {l : List α} {i : Nat} (d : α) (h : i < l.length) : l.getD i d ∈ l := by rw [getD_at d h]; exact List.getElem_mem h
theorem good_of {w : Wld} (h : (checkS w).err = 0) : WldGood w := by
  unfold checkS at h
  split at h
  · rename_i hw
    have hs := sound_of hw
    have h0 : shtErr (toldS w) = 0 := by
      unfold makeE at h
      split at h
      · assumption
      · exact h
    have hk := shtOK_of h0
    have hf := hk.few
    simp only [tooLong, Bool.or_eq_false_iff, decide_eq_false_iff_not, Nat.not_lt] at hf
    have hn : ∀ n ∈ numbersL (toldS w), tickOK n = true := hk.numbers
    have inR : ∀ r ∈ w.routes, ∃ i, i < w.routes.length ∧ tRte w i ∈ (toldS w).routes ∧ w.routes.getD i ⟨[], [], []⟩ = r := fun r hr => by
      obtain ⟨i, hi, rfl⟩ := List.getElem_of_mem hr
      exact ⟨i, hi, List.mem_map.2 ⟨i, List.mem_range.2 hi, rfl⟩, getD_at _ hi⟩
    refine ⟨hs, ?_, fun r hr => ?_, fun r hr n hn' => ?_, fun r hr n hn' => ?_, fun t ht => ?_, ?_⟩
    · exact hn _ (by simp [numbersL, toldS])
    · obtain ⟨i, hi, h1, h2⟩ := inR r hr
      have := hk.routes _ h1
      simp only [rteOK, tRte, h2, List.length_map, Bool.and_eq_true, decide_eq_true_eq, beq_iff_eq] at this
      omega
    · obtain ⟨i, hi, h1, h2⟩ := inR r hr
      refine hn n ?_
      simp only [numbersL, List.mem_append, List.mem_flatMap]
      exact .inl (.inl (.inr ⟨_, h1, by simp only [nuRte, tRte, h2, List.mem_append]; exact .inl hn'⟩))
    · obtain ⟨i, hi, h1, h2⟩ := inR r hr
      refine hn n ?_
      simp only [numbersL, List.mem_append, List.mem_flatMap]
      exact .inl (.inl (.inr ⟨_, h1, by simp only [nuRte, tRte, h2, List.mem_append]; exact .inr hn'⟩))
    · obtain ⟨i, hi, rfl⟩ := List.getElem_of_mem ht
      have h1 : tTrp w i ∈ (toldS w).trips := List.mem_map.2 ⟨i, List.mem_range.2 hi, rfl⟩
      have h2 : w.trips.getD i ⟨0, 0, 0, 0⟩ = w.trips[i] := getD_at _ hi
      have key : ∀ n ∈ nuTrp (tTrp w i), tickOK n = true := fun n hn' => hn n (by
        simp only [numbersL, List.mem_append, List.mem_flatMap]
        exact .inl (.inr ⟨_, h1, hn'⟩))
      simp only [nuTrp, tTrp, h2, List.mem_cons, List.not_mem_nil, or_false] at key
      exact ⟨key _ (.inl rfl), key _ (.inr (.inl rfl)), key _ (.inr (.inr rfl))⟩
    · have : (toldS w).trips.length = w.trips.length := by simp [toldS]
      omega
  · exact absurd h (by decide)
/-! Runs. -/
def atS (fr ev i : Int) : Int × Int := if tickOK fr && tickOK ev && decide (0 ≤ i) && !(ev == 0 && decide (0 < i)) && decide (fr + ev * i ≤ 1099511627776) then (fr + ev * i, 0) else (0, 9)
def goR (r : RteO) (a : Int) : Nat → Int × List Int × List Int
  | 0 => (a, [a], [a])
  | k + 1 =>
    let x := (goR r a k).1 + r.rides.getD k 0
    let y := if k < r.stays.length then x + r.stays.getD k 0 else x
    (y, (goR r a k).2.1 ++ [x], (goR r a k).2.2 ++ [y])
def rn0 : Rn := ⟨0, 0, [], []⟩
def runR (r : RteO) (trip no a : Int) : Rn := ⟨trip, no, (goR r a r.rides.length).2.1, (goR r a r.rides.length).2.2⟩
def endR (r : Rn) : Int := r.arr.getD (r.arr.length - 1) 0
/-- The trip at a place, its route. -/
def trpW (w : Wld) (trip : Nat) : TrpO := w.trips.getD trip ⟨0, 0, 0, 0⟩
def rteW (w : Wld) (trip : Nat) : RteO := w.routes.getD (trpW w trip).route.toNat ⟨[], [], []⟩
def oneS (w : Wld) (trip : Nat) (no : Int) : Rn × Bool :=
  if no < 0 ∨ countS (trpW w trip).fr (trpW w trip).ev (trpW w trip).un ≤ no then (rn0, false)
  else if (atS (trpW w trip).fr (trpW w trip).ev no).2 ≠ 0 ∨ w.hor < (atS (trpW w trip).fr (trpW w trip).ev no).1 then (rn0, false)
  else (runR (rteW w trip) trip no (atS (trpW w trip).fr (trpW w trip).ev no).1, decide (endR (runR (rteW w trip) trip no (atS (trpW w trip).fr (trpW w trip).ev no).1) ≤ w.hor))
/-- The first at which it does not hold, by halving. -/
def srch (p : Nat → Bool) (lo hi : Nat) : Nat :=
  if h : lo < hi then (if p ((lo + hi) / 2) then srch p ((lo + hi) / 2 + 1) hi else srch p lo ((lo + hi) / 2)) else lo
termination_by hi - lo
decreasing_by all_goals omega
def countT (w : Wld) (trip : Nat) : Nat := srch (fun k => (oneS w trip k).2) 0 (countS (trpW w trip).fr (trpW w trip).ev (trpW w trip).un).toNat
theorem srch_le (p : Nat → Bool) (lo hi : Nat) : lo ≤ hi → srch p lo hi ≤ hi := by
  induction lo, hi using srch.induct p with
  | case1 lo hi h hp ih => intro _; rw [srch, dif_pos h, if_pos hp]; exact ih (by omega)
  | case2 lo hi h hp ih => intro _; rw [srch, dif_pos h, if_neg hp]; have := ih (by omega); omega
  | case3 lo hi h => intro hl; rw [srch, dif_neg h]; omega
def isT (w : Wld) (trip : Int) : Bool := decide (0 ≤ trip) && decide (trip < (w.trips.length : Int))
def countE (w : Wld) (trip : Int) : Int := if (checkS w).err = 0 ∧ isT w trip = true then countT w trip.toNat else 0
def oneE (w : Wld) (trip no : Int) : Rn × Int := if (checkS w).err ≠ 0 then (rn0, 2) else if isT w trip = true ∧ (oneS w trip.toNat no).2 = true then ((oneS w trip.toNat no).1, 0) else (rn0, 5)
def sumC (w : Wld) : Nat → Nat
  | 0 => 0
  | i + 1 => sumC w i + countT w i
def runsT (w : Wld) (t : Nat) : List Rn := (List.range (countT w t)).map fun k : Nat => (oneS w t (k : Int)).1
def runsN (w : Wld) : Nat → List Rn
  | 0 => []
  | i + 1 => runsN w i ++ runsT w i
def allE (w : Wld) : List Rn × Int := if (checkS w).err ≠ 0 then ([], 2) else if 16384 < sumC w w.trips.length then ([], 3) else (runsN w w.trips.length, 0)
def riseB (r : Rn) (k : Nat) : Bool := decide (r.dep.getD k 0 < r.arr.getD (k + 1) 0) && decide (r.arr.getD (k + 1) 0 ≤ r.dep.getD (k + 1) 0)
def timesB (r : Rn) : Bool := decide (2 ≤ r.arr.length) && (r.dep.length == r.arr.length) && (r.arr.getD 0 0 == r.dep.getD 0 0) && (r.arr.getD (r.arr.length - 1) 0 == r.dep.getD (r.arr.length - 1) 0) && decide (0 ≤ r.arr.getD 0 0) &&
  decide (r.arr.getD (r.arr.length - 1) 0 ≤ 1099511627776) && (List.range (r.arr.length - 1)).all (riseB r)
def checkR (w : Wld) (r : Rn) : Int := if (oneE w r.trip r.no).2 ≠ 0 then (oneE w r.trip r.no).2
  else if !timesB r || !(r.arr.length == (rteW w r.trip.toNat).stops.length) then 2 else if w.hor < endR r then 9 else 0
def lateA (r : Rn) (f : Nat) (by_ : Int) (k : Nat) : Int := if f < k ∨ (k = 0 ∧ f = 0) then r.arr.getD k 0 + by_ else r.arr.getD k 0
def lateD (r : Rn) (f : Nat) (by_ : Int) (k : Nat) : Int := if f ≤ k then r.dep.getD k 0 + by_ else r.dep.getD k 0
def laterS (r : Rn) (f by_ : Int) : Rn × Int := if !timesB r || decide (f < 0) || decide ((r.arr.length : Int) - 1 ≤ f) || decide (by_ < 0) then (rn0, 2) else if 1099511627776 - endR r < by_ then (rn0, 9)
  else (⟨r.trip, r.no, (List.range r.arr.length).map (lateA r f.toNat by_), (List.range r.dep.length).map (lateD r f.toNat by_)⟩, 0)
theorem sumC_mono (w : Wld) {i j : Nat} (h : i ≤ j) : sumC w i ≤ sumC w j := by
  induction h with
  | refl => exact Nat.le_refl _
  | step h ih => exact Nat.le_trans ih (Nat.le_add_right _ _)
theorem runsN_len (w : Wld) : ∀ i, (runsN w i).length = sumC w i
  | 0 => rfl
  | i + 1 => by simp [runsN, sumC, runsN_len w i, runsT]
theorem goR_len (r : RteO) (a : Int) : ∀ k, (goR r a k).2.1.length = k + 1 ∧ (goR r a k).2.2.length = k + 1
  | 0 => ⟨rfl, rfl⟩
  | k + 1 => by
    have := goR_len r a k
    simp only [goR, List.length_append, List.length_cons, List.length_nil]
    omega
theorem goR_bd {r : RteO} {a : Int} (ha : 0 ≤ a ∧ a ≤ 1099511627776) (h1 : ∀ n ∈ r.rides, tickOK n = true) (h2 : ∀ n ∈ r.stays, tickOK n = true) : ∀ k, k ≤ r.rides.length → 0 ≤ (goR r a k).1 ∧ (goR r a k).1 ≤ 1099511627776 * (2 * (k : Int) + 1)
  | 0, _ => by simp [goR]; omega
  | k + 1, hk => by
    have ih := goR_bd ha h1 h2 k (by omega)
    have hr := h1 _ (getD_in (d := 0) (show k < r.rides.length by omega))
    simp only [tickOK, Bool.and_eq_true, decide_eq_true_eq] at hr
    simp only [goR]
    split
    · rename_i hs
      have hs' := h2 _ (getD_in (d := 0) hs)
      simp only [tickOK, Bool.and_eq_true, decide_eq_true_eq] at hs'
      omega
    · omega
end Go.Ab
/- Ticks of rows, by the program and by the document. -/
set_option linter.unusedVariables false
set_option linter.unusedSimpArgs false
set_option maxRecDepth 10000
namespace Go.Ab
theorem tick_bd {n : Int} (h : tickOK n = true) : 0 ≤ n ∧ n ≤ 1099511627776 := by simpa [tickOK] using h
theorem tick_mk {n : Int} (h0 : 0 ≤ n) (h1 : n ≤ 1099511627776) : tickOK n = true := by simp [tickOK, h0, h1]
theorem tick_no {n : Int} (h : tickOK n = false) : n < 0 ∨ 1099511627776 < n := by simp [tickOK] at h; omega
def mulT (a n : Int) : Int × Int := if a * n ≤ 1099511627776 then (a * n, 0) else (0, 9)
def smallT (n : Int) : Int × Int := if tickOK n then (n, 0) else (0, 9)
theorem over_iff {a n : Int} (ha : 0 < a) : (1099511627776 : Int).tdiv a < n ↔ 1099511627776 < a * n := by
  rw [Int.tdiv_eq_ediv_of_nonneg (by decide)]
  rw [Int.ediv_lt_iff_lt_mul ha, Int.mul_comm]
end Go.Ab
namespace Go.Proofs.YtmfolelgdpkkoaaGreatDoor
open Go Go.Ab
theorem m_tick_Is (G : GlP) (t : Int) (ht : tickOK t = true) : Meets Pg G F_tick_Is [.int .i64 t] [] (.bool true) [] := by
  have hb := tick_bd ht
  refine meets_pure (F := fe_tick_Is) hTh hMx func_tick_Is rfl call_tick_Is rfl rfl rfl ?_
  conv => whnf
  refine cond_split (fun h => ?_) (fun h => ?_)
  · simp at h; omega
  conv => whnf
  refine CallTo.fn (m_tick_Check G t) ?_
  conv => whnf
  rw [ht]
  conv => whnf
  exact Fin.one hTh rfl (rfl) rfl
theorem m_tick_small (G : GlP) (t : Int) : Meets Pg G F_tick_small [.int .i64 t] [] (.tup [.int .i64 (smallT t).1, .int .i64 (smallT t).2]) [] := by
  refine meets_pure (F := fe_tick_small) hTh hMx func_tick_small rfl call_tick_small rfl rfl rfl ?_
  conv => whnf
  refine CallTo.fn (m_tick_Check G t) ?_
  conv => whnf
  cases ht : tickOK t
  · have e : smallT t = (0, 9) := by simp [smallT, ht]
    rw [e]
    conv => whnf
    exact Fin.pure hTh [.int .i64 0, .int .i64 9] rfl rfl rfl
  · have e : smallT t = (t, 0) := by simp [smallT, ht]
    rw [e]
    conv => whnf
    exact Fin.pure hTh [.int .i64 t, .int .i64 0] rfl rfl rfl
theorem m_tick_Mul (G : GlP) (a n : Int) (ha : tickOK a = true) (hn : 0 ≤ n) (hn2 : n ≤ 9223372036854775807) : Meets Pg G F_tick_Mul [.int .i64 a, .int .i64 n] [] (.tup [.int .i64 (mulT a n).1, .int .i64 (mulT a n).2]) [] := by
  have hb := tick_bd ha
  refine meets_pure (F := fe_tick_Mul) hTh hMx func_tick_Mul rfl call_tick_Mul rfl rfl rfl ?_
  conv => whnf
  refine CallTo.fn (m_tick_Is G a ha) ?_
  conv => whnf
  refine cond_split (fun h => ?_) (fun h => ?_)
  · simp at h; omega
  conv => whnf
  refine cond_split (fun h1 => ?_) (fun h1 => ?_)
  · conv => whnf
    have h1' : n = 0 := by simpa using h1
    have e : mulT a n = (0, 0) := by simp [mulT, h1']
    rw [e]
    exact Fin.pure hTh [.int .i64 0, .int .i64 0] rfl rfl rfl
  have h1' : n ≠ 0 := by simpa using h1
  conv => whnf
  refine cond_split (fun h2 => ?_) (fun h2 => ?_)
  · conv => whnf
    have h2' : a = 0 := by simpa using h2
    have e : mulT a n = (0, 0) := by simp [mulT, h2']
    rw [e]
    exact Fin.pure hTh [.int .i64 0, .int .i64 0] rfl rfl rfl
  have h2' : a ≠ 0 := by simpa using h2
  conv => whnf
  refine cond_split (fun h3 => ?_) (fun h3 => ?_)
  · simp at h3; omega
  conv => whnf
  refine OpTo.quo rfl rfl rfl h2' (c := (1099511627776 : Int).tdiv a) (IntWalk.i64_in _ (by
    have := Int.tdiv_nonneg (a := 1099511627776) (b := a) (by decide) hb.1
    have : (1099511627776 : Int).tdiv a ≤ 1099511627776 := by
      rw [Int.tdiv_eq_ediv_of_nonneg (by decide)]
      exact Int.ediv_le_self _ (by decide)
    omega)) ?_
  conv => whnf
  refine cond_split (fun h4 => ?_) (fun h4 => ?_)
  · have h4' := (over_iff (a := a) (n := n) (by omega)).1 (of_decide_eq_true h4)
    have e : mulT a n = (0, 9) := by unfold mulT; rw [if_neg (by omega)]
    rw [e]
    conv => whnf
    exact Fin.pure hTh [.int .i64 0, .int .i64 9] rfl rfl rfl
  · have h4' : ¬ 1099511627776 < a * n := fun h => of_decide_eq_false h4 ((over_iff (a := a) (n := n) (by omega)).2 h)
    have e : mulT a n = (a * n, 0) := by unfold mulT; rw [if_pos (by omega)]
    have hn0 : 0 ≤ a * n := Int.mul_nonneg hb.1 hn
    rw [e]
    conv => whnf
    refine WrapTo.i64 (by omega) ?_
    conv => whnf
    exact Fin.pure hTh [.int .i64 (a * n), .int .i64 0] rfl rfl rfl
theorem m_tick_Add (G : GlP) (a b : Int) (ha : tickOK a = true) (hb : tickOK b = true) : Meets Pg G F_tick_Add [.int .i64 a, .int .i64 b] [] (.tup [.int .i64 (smallT (a + b)).1, .int .i64 (smallT (a + b)).2]) [] := by
  have ha' := tick_bd ha
  have hb' := tick_bd hb
  refine meets_pure (F := fe_tick_Add) hTh hMx func_tick_Add rfl call_tick_Add rfl rfl rfl ?_
  conv => whnf
  refine CallTo.fn (m_tick_Is G a ha) ?_
  conv => whnf
  refine CallTo.fn (m_tick_Is G b hb) ?_
  conv => whnf
  refine OpTo.max rfl rfl rfl ?_
  conv => whnf
  refine cond_split (fun h => ?_) (fun h => ?_)
  · simp at h; omega
  conv => whnf
  refine WrapTo.i64 (by omega) ?_
  conv => whnf
  refine CallTo.fn (m_tick_small G (a + b)) ?_
  conv => whnf
  exact Fin.pure hTh [.int .i64 _, .int .i64 _] rfl rfl rfl
theorem m_tick_At (G : GlP) (fr ev i : Int) (hi : i ≤ 9223372036854775807) : Meets Pg G F_tick_At [.int .i64 fr, .int .i64 ev, .int .i64 i] [] (.tup [.int .i64 (atS fr ev i).1, .int .i64 (atS fr ev i).2]) [] := by
  refine meets_pure (F := fe_tick_At) hTh hMx func_tick_At rfl call_tick_At rfl rfl rfl ?_
  conv => whnf
  refine CallTo.fn (m_tick_Check G fr) ?_
  conv => whnf
  cases h1 : tickOK fr
  · have e : atS fr ev i = (0, 9) := by simp [atS, h1]
    rw [e]
    conv => whnf
    exact Fin.pure hTh [.int .i64 0, .int .i64 9] rfl rfl rfl
  conv => whnf
  refine CallTo.fn (m_tick_Check G ev) ?_
  conv => whnf
  cases h2 : tickOK ev
  · have e : atS fr ev i = (0, 9) := by simp [atS, h2]
    rw [e]
    conv => whnf
    exact Fin.pure hTh [.int .i64 0, .int .i64 9] rfl rfl rfl
  have b1 := tick_bd h1
  have b2 := tick_bd h2
  conv => whnf
  refine cond_split (fun h3 => ?_) (fun h3 => ?_)
  · have h3' : i < 0 := by simpa using h3
    have e : atS fr ev i = (0, 9) := by
      unfold atS
      rw [if_neg (by simp only [Bool.and_eq_true, decide_eq_true_eq]; rintro ⟨⟨⟨_, h⟩, _⟩, _⟩; omega)]
    rw [e]
    conv => whnf
    exact Fin.pure hTh [.int .i64 0, .int .i64 9] rfl rfl rfl
  have h3' : 0 ≤ i := by simpa using h3
  conv => whnf
  refine cond_split (fun h4 => ?_) (fun h4 => ?_)
  · have h4' : ev = 0 := by simpa using h4
    conv => whnf
    refine cond_split (fun h5 => ?_) (fun h5 => ?_)
    · have h5' : 0 < i := by simpa using h5
      have e : atS fr ev i = (0, 9) := by
        unfold atS
        rw [if_neg (by simp [h4', h5'])]
      rw [e]
      conv => whnf
      exact Fin.pure hTh [.int .i64 0, .int .i64 9] rfl rfl rfl
    have h5' : ¬ 0 < i := by simpa using h5
    have M := m_tick_Mul G ev i h2 h3' hi
    by_cases hle : ev * i ≤ 1099511627776
    · have hm : mulT ev i = (ev * i, 0) := by unfold mulT; rw [if_pos hle]
      rw [hm] at M
      have hn0 : 0 ≤ ev * i := Int.mul_nonneg b2.1 h3'
      have e : atS fr ev i = smallT (fr + ev * i) := by
        unfold atS smallT
        by_cases h6 : fr + ev * i ≤ 1099511627776
        · rw [if_pos (by simp only [h1, h2, Bool.and_eq_true, decide_eq_true_eq, Bool.not_eq_true', Bool.and_eq_false_iff, decide_eq_false_iff_not, beq_eq_false_iff_ne]; exact ⟨⟨⟨⟨trivial, trivial⟩, h3'⟩, .inr h5'⟩, h6⟩), if_pos (tick_mk (by omega) h6)]
        · rw [if_neg (by simp only [Bool.and_eq_true, decide_eq_true_eq]; rintro ⟨_, h⟩; exact h6 h), if_neg (by simp only [tickOK, Bool.and_eq_true, decide_eq_true_eq]; rintro ⟨_, h⟩; exact h6 h)]
      rw [e]
      conv => whnf
      refine CallTo.fn (M) ?_
      conv => whnf
      refine CallTo.fn (m_tick_Add G fr (ev * i) h1 (tick_mk hn0 hle)) ?_
      conv => whnf
      exact Fin.pure hTh [.int .i64 _, .int .i64 _] rfl rfl rfl
    · have hm : mulT ev i = (0, 9) := by unfold mulT; rw [if_neg hle]
      rw [hm] at M
      have e : atS fr ev i = (0, 9) := by
        unfold atS
        rw [if_neg (by simp only [Bool.and_eq_true, decide_eq_true_eq]; rintro ⟨_, h⟩; omega)]
      rw [e]
      conv => whnf
      refine CallTo.fn (M) ?_
      conv => whnf
      exact Fin.pure hTh [.int .i64 0, .int .i64 9] rfl rfl rfl
  · have h4' : ¬ ev = 0 := by simpa using h4
    have M := m_tick_Mul G ev i h2 h3' hi
    by_cases hle : ev * i ≤ 1099511627776
    · have hm : mulT ev i = (ev * i, 0) := by unfold mulT; rw [if_pos hle]
      rw [hm] at M
      have hn0 : 0 ≤ ev * i := Int.mul_nonneg b2.1 h3'
      have e : atS fr ev i = smallT (fr + ev * i) := by
        unfold atS smallT
        by_cases h6 : fr + ev * i ≤ 1099511627776
        · rw [if_pos (by simp only [h1, h2, Bool.and_eq_true, decide_eq_true_eq, Bool.not_eq_true', Bool.and_eq_false_iff, decide_eq_false_iff_not, beq_eq_false_iff_ne]; exact ⟨⟨⟨⟨trivial, trivial⟩, h3'⟩, .inl h4'⟩, h6⟩), if_pos (tick_mk (by omega) h6)]
        · rw [if_neg (by simp only [Bool.and_eq_true, decide_eq_true_eq]; rintro ⟨_, h⟩; exact h6 h), if_neg (by simp only [tickOK, Bool.and_eq_true, decide_eq_true_eq]; rintro ⟨_, h⟩; exact h6 h)]
      rw [e]
      conv => whnf
      refine CallTo.fn (M) ?_
      conv => whnf
      refine CallTo.fn (m_tick_Add G fr (ev * i) h1 (tick_mk hn0 hle)) ?_
      conv => whnf
      exact Fin.pure hTh [.int .i64 _, .int .i64 _] rfl rfl rfl
    · have hm : mulT ev i = (0, 9) := by unfold mulT; rw [if_neg hle]
      rw [hm] at M
      have e : atS fr ev i = (0, 9) := by
        unfold atS
        rw [if_neg (by simp only [Bool.and_eq_true, decide_eq_true_eq]; rintro ⟨_, h⟩; omega)]
      rw [e]
      conv => whnf
      refine CallTo.fn (M) ?_
      conv => whnf
      exact Fin.pure hTh [.int .i64 0, .int .i64 9] rfl rfl rfl
theorem m_ref01_At (G : GlP) (fr ev i : Int) (hi : i ≤ 9223372036854775807) : Meets Pg G F_ref01_At [.int .i64 fr, .int .i64 ev, .int .i64 i] [] (.tup [.int .i64 (atS fr ev i).1, .int .i64 (atS fr ev i).2]) [] := by
  refine meets_pure (F := fe_ref01_At) hTh hMx func_ref01_At rfl call_ref01_At rfl rfl rfl ?_
  conv => whnf
  refine CallTo.fn (m_ref01_Check G fr) ?_
  conv => whnf
  cases h1 : tickOK fr
  · have e : atS fr ev i = (0, 9) := by simp [atS, h1]
    rw [e]
    conv => whnf
    exact Fin.pure hTh [.int .i64 0, .int .i64 9] rfl rfl rfl
  conv => whnf
  refine CallTo.fn (m_ref01_Check G ev) ?_
  conv => whnf
  cases h2 : tickOK ev
  · have e : atS fr ev i = (0, 9) := by simp [atS, h2]
    rw [e]
    conv => whnf
    exact Fin.pure hTh [.int .i64 0, .int .i64 9] rfl rfl rfl
  have b1 := tick_bd h1
  have b2 := tick_bd h2
  conv => whnf
  refine cond_split (fun h3 => ?_) (fun h3 => ?_)
  · have h3' : i < 0 := by simpa using h3
    have e : atS fr ev i = (0, 9) := by
      unfold atS
      rw [if_neg (by simp only [Bool.and_eq_true, decide_eq_true_eq]; rintro ⟨⟨⟨_, h⟩, _⟩, _⟩; omega)]
    rw [e]
    conv => whnf
    exact Fin.pure hTh [.int .i64 0, .int .i64 9] rfl rfl rfl
  have h3' : 0 ≤ i := by simpa using h3
  conv => whnf
  refine cond_split (fun h4 => ?_) (fun h4 => ?_)
  · have h4' : ev = 0 := by simpa using h4
    conv => whnf
    refine cond_split (fun h5 => ?_) (fun h5 => ?_)
    · have h5' : 0 < i := by simpa using h5
      have e : atS fr ev i = (0, 9) := by
        unfold atS
        rw [if_neg (by simp [h4', h5'])]
      rw [e]
      conv => whnf
      exact Fin.pure hTh [.int .i64 0, .int .i64 9] rfl rfl rfl
    have h5' : ¬ 0 < i := by simpa using h5
    have e : atS fr ev i = (fr, 0) := by
      unfold atS
      rw [if_pos (by simp [h1, h4', h3', h5', tickOK]; omega), h4', Int.zero_mul, Int.add_zero]
    rw [e]
    conv => whnf
    refine cond_split (fun h6 => ?_) (fun h6 => ?_)
    · conv => whnf
      exact Fin.pure hTh [.int .i64 fr, .int .i64 0] rfl rfl rfl
    · simp [h4'] at h6
  · have h4' : ¬ ev = 0 := by simpa using h4
    have hn0 : 0 ≤ ev * i := Int.mul_nonneg b2.1 h3'
    have hq0 := Int.tdiv_nonneg (a := 1099511627776 - fr) (b := ev) (by omega) b2.1
    have hq1 : (1099511627776 - fr).tdiv ev ≤ 1099511627776 - fr := by
      rw [Int.tdiv_eq_ediv_of_nonneg (by omega)]
      exact Int.ediv_le_self _ (by omega)
    have hov : (1099511627776 - fr).tdiv ev < i ↔ 1099511627776 < fr + ev * i := by
      rw [Int.tdiv_eq_ediv_of_nonneg (by omega), Int.ediv_lt_iff_lt_mul (by omega), Int.mul_comm i]
      omega
    conv => whnf
    refine cond_split (fun h6 => ?_) (fun h6 => ?_)
    · exact absurd (by simpa using h6) h4'
    conv => whnf
    refine WrapTo.i64 (by omega) ?_
    conv => whnf
    refine OpTo.quo rfl rfl rfl h4' (c := (1099511627776 - fr).tdiv ev) (IntWalk.i64_in _ (by omega)) ?_
    conv => whnf
    refine cond_split (fun h7 => ?_) (fun h7 => ?_)
    · have h7' := hov.1 (of_decide_eq_true h7)
      have e : atS fr ev i = (0, 9) := by
        unfold atS
        rw [if_neg (by simp only [Bool.and_eq_true, decide_eq_true_eq]; rintro ⟨_, h⟩; omega)]
      rw [e]
      conv => whnf
      exact Fin.pure hTh [.int .i64 0, .int .i64 9] rfl rfl rfl
    · have h7' : ¬ 1099511627776 < fr + ev * i := fun h => of_decide_eq_false h7 (hov.2 h)
      have e : atS fr ev i = (fr + i * ev, 0) := by
        unfold atS
        rw [if_pos (by simp only [h1, h2, Bool.and_eq_true, decide_eq_true_eq, Bool.not_eq_true', Bool.and_eq_false_iff, decide_eq_false_iff_not, beq_eq_false_iff_ne]; exact ⟨⟨⟨⟨trivial, trivial⟩, h3'⟩, .inl h4'⟩, by omega⟩), Int.mul_comm ev]
      rw [e]
      rw [Int.mul_comm] at hn0 h7'
      conv => whnf
      refine WrapTo.i64 (by have := Int.mul_comm i ev; omega) ?_
      conv => whnf
      refine WrapTo.i64 (by have := Int.mul_comm i ev; omega) ?_
      conv => whnf
      exact Fin.pure hTh [.int .i64 (fr + i * ev), .int .i64 0] rfl rfl rfl
end Go.Proofs.YtmfolelgdpkkoaaGreatDoor
/- The framework of abstract states, part 17: package variables that are tables, bits, conversions of whole numbers, slices made. -/
set_option linter.unusedVariables false
set_option linter.unusedSimpArgs false
namespace Go.Ab
section ops
variable {P : Program} {G : GlP} {Θ : TT} {o : Oper} {V : Operand → AV}
theorem tri_indexAddr_gp (hΘ : TTok P Θ) (t : TypeId) (x ix : Operand) (ho : o.op = .indexAddr t x ix) (y z : Ty) (n : Nat) (e : TypeId) (hy : Θ t = some y) (hd : y.d = .array n e) (hz : Θ e = some z)
    (g : Nat) (hx : V x = .gp g) (k : IntKind) (i : Nat) (hi : V ix = .int k i) (hlt : i < n) (cs : List AV) (hg : g < G.ng) (hG : ∀ (w : World) (O : Nat → Prop), G.holds w → CvC w O cs g 0) : Tri P G o V [] (.pp (cs.drop (i * z.size))) [] := by
  intro E w μ Lf ρ C hf _ hv _
  have hxv := hv x (by simp [ho, Op.operands])
  have hiv := hv ix (by simp [ho, Op.operands])
  rw [hx] at hxv
  rw [hi] at hiv
  simp only [Cv] at hxv hiv
  have hu := r_under hΘ hy w
  rw [hd] at hu
  have hs := r_size hΘ hz w
  have hr : (execOp ρ o).run P w = .ok (.value (.pointer (some ⟨g, i * z.size, none⟩))) w := by
    have hsa : ∀ (a : Addr) (w : World), (Instr.sureAddr (.pointer (some a))).run P w = .ok a w := fun _ _ => by simp [Instr.sureAddr]
    simp only [execOp, ho, hxv, hiv, Instr.indexAt, Sem.run_bind, asIntOf, hu, Sem.run_pure, Result.andThen_ok]
    simp [hlt, hs, add_none, hsa, hu]
  unfold OpGives
  rw [hr]
  refine ⟨μ, by rw [ovr_nil]; exact C, Later.refl _ _, Keeps.refl _, ?_⟩
  simp only [Cv]
  refine ⟨g, i * z.size, rfl, by have := C.ngw; have := C.size; omega, ?_, ?_⟩
  · rintro (h | h)
    · have := C.ngo g h; omega
    · have := C.Xng g h; omega
  · have := (hG w (E.O μ) C.gl).drop (i * z.size)
    rwa [Nat.zero_add] at this
theorem tri_bits (op : BinOp) (t t' : TypeId) (x y : Operand) (ho : o.op = .binOp op t x y t') (k : IntKind) (a b : Int) (hx : V x = .int k a) (hy : V y = .int k b) (hop : op = .and ∨ op = .or ∨ op = .xor ∨ op = .andNot) (c : Int) (hc : bits op k a b = c) : Tri P G o V [] (.int k c) [] :=
  tri_pure fun E w μ Lf ρ C hf hv => by
    have hxv := hv x (by simp [ho, Op.operands])
    have hyv := hv y (by simp [ho, Op.operands])
    rw [hx] at hxv
    rw [hy] at hyv
    simp only [Cv] at hxv hyv
    have hg : ∀ p q, (eqGuard op t p q (.int k a) (.int k b)).run P w = .ok () w := fun p q => by
      unfold eqGuard
      rcases hop with rfl | rfl | rfl | rfl <;> simp
    refine ⟨.int k c, ?_, by simp only [Cv]⟩
    rcases hop with rfl | rfl | rfl | rfl <;> simp [execOp, ho, hxv, hyv, hg, go_sem, hc]
theorem tri_not_bits (t : TypeId) (x : Operand) (ho : o.op = .unOp .xor t x) (k : IntKind) (a : Int) (hx : V x = .int k a) (c : Int) (hc : bits .xor k (if k.signed then -1 else k.max) a = c) : Tri P G o V [] (.int k c) [] :=
  tri_pure fun E w μ Lf ρ C hf hv => by
    have hxv := hv x (by simp [ho, Op.operands])
    rw [hx] at hxv
    simp only [Cv] at hxv
    exact ⟨.int k c, by simp [execOp, ho, hxv, go_sem, hc], by simp only [Cv]⟩
theorem tri_convI (hΘ : TTok P Θ) (s d : TypeId) (x : Operand) (ho : o.op = .convert s d x) (ys yd : Ty) (hs : Θ s = some ys) (hd : Θ d = some yd) (k k' : IntKind) (hk : yd.d = .int k') (a : Int) (hx : V x = .int k a) (c : Int) (hc : k'.wrap a = c) : Tri P G o V [] (.int k' c) [] :=
  tri_pure fun E w μ Lf ρ C hf hv => by
    have hxv := hv x (by simp [ho, Op.operands])
    rw [hx] at hxv
    simp only [Cv] at hxv
    have h1 := r_under hΘ hs w
    have h2 := r_under hΘ hd w
    rw [hk] at h2
    exact ⟨.int k' c, by simp [execOp, ho, hxv, convert, h1, h2, Conv.intToInt, hc], by simp only [Cv]⟩
theorem madeL_eq (z : Array Value) (hz : 0 < z.size) : ∀ n : Nat, (madeCells z (n * z.size)).toList = (List.replicate n z.toList).flatten
  | 0 => by simp [madeCells]
  | n + 1 => by
    have ih := madeL_eq z hz n
    simp only [madeCells, Array.toList_map, Array.toList_range] at ih ⊢
    rw [List.replicate_succ', List.flatten_append, ← ih, Nat.add_mul, Nat.one_mul, List.range_add, List.map_append]
    congr 1
    simp only [List.map_map, List.flatten_cons, List.flatten_nil, List.append_nil]
    apply List.ext_getElem
    · simp
    · intro i h1 h2
      simp only [List.length_map, List.length_range] at h1
      simp only [List.getElem_map, List.getElem_range, Function.comp_apply]
      have : (n * z.size + i) % z.size = i := by
        rw [Nat.mul_comm, Nat.mul_add_mod]
        exact Nat.mod_eq_of_lt h1
      simp [this, h1]
theorem CvL.flatten_rep {w : World} {O : Nat → Prop} {cs : List AV} {μ : Mu} {vs : List Value} (h : CvL w O cs μ vs) : ∀ n : Nat, CvL w O (List.replicate n cs).flatten μ (List.replicate n vs).flatten
  | 0 => by simp [CvL]
  | n + 1 => by simp only [List.replicate_succ, List.flatten_cons]; exact h.append (CvL.flatten_rep h n)
theorem tri_makeSlice (hΘ : TTok P Θ) (t : TypeId) (a b : Operand) (ho : o.op = .makeSlice t a b) (y z : Ty) (e : TypeId) (hy : Θ t = some y) (hd : y.d = .slice e) (hz : Θ e = some z) (k k' : IntKind) (n : Nat) (ha : V a = .int k n) (hb : V b = .int k' n)
    (hzs : z.zero.cells.size = z.size) (hz0 : 0 < z.size) (h1 : allOneB (zcells z) = true) (hby : z.bytes * n ≤ 281474976710656) (hn : n ≤ 4294967296) (l : Lbl) :
    Tri P G o V [] (.own l n) [(l, .row e z.size (List.replicate n (zcells z)))] := by
  intro E w μ Lf ρ C hf hg hv _
  have hav := hv a (by simp [ho, Op.operands])
  have hbv := hv b (by simp [ho, Op.operands])
  rw [ha] at hav
  rw [hb] at hbv
  simp only [Cv] at hav hbv
  obtain ⟨it, _⟩ := hΘ t y hy
  obtain ⟨iz, g1, g2, g3, g4, g5⟩ := hΘ e z hz
  obtain ⟨it, q1, _⟩ := hΘ t y hy
  rw [hd] at q1
  have hrun := run_make (P := P) w t e iz z.zero q1 g2 g5 k k' (n : Int) (n : Int) (by omega) (Int.le_refl _) (by rw [g4, ← Int.natCast_mul]; omega) (by omega)
  simp only [Int.toNat_natCast, g3] at hrun
  have hr : (execOp ρ o).run P w = .ok (.value (.slice (some ⟨w.heap.size, 0, none⟩) n n)) (w.alloc (.cells (madeCells z.zero.cells (n * z.size)) e)) := by
    simp only [execOp, ho, hav, hbv, Sem.run_bind, hrun]
    rfl
  have hml : (madeCells z.zero.cells (n * z.size)).toList = (List.replicate n z.zero.cells.toList).flatten := by
    rw [← hzs]
    exact madeL_eq z.zero.cells (by omega) n
  have hcv : CvL w (E.O μ) (List.replicate n (zcells z)).flatten μ (madeCells z.zero.cells (n * z.size)).toList := by
    rw [hml]
    exact CvL.flatten_rep (zcells_spec z w (E.O μ) μ) n
  have hzl : (zcells z).length = z.size := by simp [zcells, hzs]
  have hall : ∀ x ∈ List.replicate n (zcells z), x.length = z.size := fun x hx => by rw [(List.mem_replicate.1 hx).2]; exact hzl
  have hone : allOne (List.replicate n (zcells z)).flatten := fun c hc => by
    obtain ⟨l, hl, hc⟩ := List.mem_flatten.1 hc
    rw [(List.mem_replicate.1 hl).2] at hc
    exact allOneB_iff h1 c hc
  have := C.newBox (w' := w.alloc (.cells (madeCells z.zero.cells (n * z.size)) e)) l (fresh_one hg) (.slice (some ⟨w.heap.size, 0, none⟩) n n) (some w.heap.size) (.row e z.size (List.replicate n (zcells z))) (by rw [heap_alloc_size]; omega) rfl rfl rfl
    (fun b hb => heap_alloc w _ b hb) (fun b hb => by injection hb with hb; subst hb; rw [heap_alloc_size]; omega)
    (fun O' μ' hla hk => by
      refine ⟨_, n, (madeCells z.zero.cells (n * z.size)).toList, by rw [List.length_replicate], by rw [List.length_replicate]; exact Nat.le_refl _, by unfold maxLen; omega, hall, ⟨hcv.mono hla _ hk, hone⟩, .inr ⟨w.heap.size, [], rfl, rfl, ?_, ?_⟩⟩
      · rw [heap_alloc_self, List.append_nil]
      · rw [List.append_nil, Array.length_toList, size_madeCells])
  unfold OpGives
  rw [hr]
  exact ⟨_, this.1, this.2.1, this.2.2, by simp only [Cv]; exact ⟨_, n, n, _, updM_same _ _ _, Nat.le_refl _, fun _ => rfl, _, _, rfl⟩⟩
end ops
section
variable {P : Program} {G : GlP} {Θ : TT} {o : Oper} {T : TL} {L : BL} {K : AV → BL → Nat → Prop}
theorem OpTo.gpAt (hΘ : TTok P Θ) {t : TypeId} {x ix : Operand} {y z : Ty} {n : Nat} {e : TypeId} {g : Nat} {k : IntKind} {i : Nat} (ho : o.op = .indexAddr t x ix) (hy : Θ t = some y) (hd : y.d = .array n e) (hz : Θ e = some z)
    (hx : ev T x = .gp g) (hi : ev T ix = .int k i) (hlt : i < n) (cs : List AV) (hg : g < G.ng) (hG : ∀ (w : World) (O : Nat → Prop), G.holds w → CvC w O cs g 0) (hK : K (.pp (cs.drop (i * z.size))) [] 0) : OpTo P G o T L K :=
  mk_pure (tri_indexAddr_gp hΘ t x ix ho y z n e hy hd hz g hx k i hi hlt cs hg hG) hK
theorem OpTo.bits {op : BinOp} {t t' : TypeId} {x y : Operand} {k : IntKind} {a b c : Int} (ho : o.op = .binOp op t x y t') (hx : ev T x = .int k a) (hy : ev T y = .int k b) (hop : op = .and ∨ op = .or ∨ op = .xor ∨ op = .andNot) (hc : Go.bits op k a b = c) (hK : K (.int k c) [] 0) : OpTo P G o T L K :=
  mk_pure (tri_bits op t t' x y ho k a b hx hy hop c hc) hK
theorem OpTo.notBits {t : TypeId} {x : Operand} {k : IntKind} {a c : Int} (ho : o.op = .unOp .xor t x) (hx : ev T x = .int k a) (hc : Go.bits .xor k (if k.signed then -1 else k.max) a = c) (hK : K (.int k c) [] 0) : OpTo P G o T L K :=
  mk_pure (tri_not_bits t x ho k a hx c hc) hK
theorem OpTo.convI (hΘ : TTok P Θ) {s d : TypeId} {x : Operand} {ys yd : Ty} {k k' : IntKind} {a c : Int} (ho : o.op = .convert s d x) (hs : Θ s = some ys) (hd : Θ d = some yd) (hk : yd.d = .int k') (hx : ev T x = .int k a) (hc : k'.wrap a = c) (hK : K (.int k' c) [] 0) : OpTo P G o T L K :=
  mk_pure (tri_convI hΘ s d x ho ys yd hs hd k k' hk a hx c hc) hK
theorem OpTo.mkSlice (hΘ : TTok P Θ) {t : TypeId} {a b : Operand} {y z : Ty} {e : TypeId} {k k' : IntKind} {n : Nat} (l : Lbl) (ho : o.op = .makeSlice t a b) (hy : Θ t = some y) (hd : y.d = .slice e) (hz : Θ e = some z) (ha : ev T a = .int k n) (hb : ev T b = .int k' n)
    (hzs : z.zero.cells.size = z.size) (hz0 : 0 < z.size) (h1 : allOneB (zcells z) = true) (hby : z.bytes * n ≤ 281474976710656) (hn : n ≤ 4294967296) (hl : getL L l = none) (hK : K (.own l n) [(l, .row e z.size (List.replicate n (zcells z)))] (mkC l)) : OpTo P G o T L K :=
  OpTo.makes (tri_makeSlice hΘ t a b ho y z e hy hd hz k k' n ha hb hzs hz0 h1 hby hn l) hl hK
end
end Go.Ab
/- The framework of abstract states, part 18: from a row's reading of its arguments to abstract values, and from a contract back to what the row asks. -/
set_option linter.unusedVariables false
set_option linter.unusedSimpArgs false
namespace Go.Ab
open Go.ChangeShapes Go.WideShapes Go.RowKit

/-- What is asked of a measure of data. -/
structure Bulk (H : Type) (bk : DataW H → Nat) (B : Nat) : Prop where
  str : ∀ bs : List UInt8, bs.length ≤ maxLen → bk (.lit (.string bs)) ≤ B → bs.length ≤ B
  slice : ∀ (e s : List (DataW H)), e.length ≤ maxLen → bk (.slice e s) ≤ B → e.length ≤ B ∧ ∀ d ∈ e, bk d ≤ B
  agg : ∀ ps : List (DataW H), bk (.agg ps) ≤ B → ∀ d ∈ ps, bk d ≤ B
/-- Nothing is asked. -/
theorem Bulk.any (H : Type) : Bulk H (fun _ => 0) maxLen := ⟨fun _ h _ => h, fun _ _ h _ => ⟨h, fun _ _ => Nat.zero_le _⟩, fun _ _ _ _ => Nat.zero_le _⟩
mutual
def sm (B : Nat) : AV → Prop
  | .str s => s.length ≤ B
  | .int k n => (Lit.int k n).wf = true
  | .lst _ xs => xs.length ≤ B ∧ smR B xs
  | _ => True
def smL (B : Nat) : List AV → Prop
  | [] => True
  | a :: as1 => sm B a ∧ smL B as1
def smR (B : Nat) : List (List AV) → Prop
  | [] => True
  | x :: xs => smL B x ∧ smR B xs
end
theorem wf64 {n : Int} (h : (Lit.int .i64 n).wf = true) : -9223372036854775808 ≤ n ∧ n ≤ 9223372036854775807 := by
  simp only [Lit.wf, Bool.and_eq_true, decide_eq_true_eq] at h
  exact h
theorem smL_append {B : Nat} : ∀ {as1 bs : List AV}, smL B as1 → smL B bs → smL B (as1 ++ bs)
  | [], bs, h, h' => h'
  | a :: as1, bs, h, h' => by
    simp only [smL] at h
    simp only [List.cons_append, smL]
    exact ⟨h.1, smL_append h.2 h'⟩
theorem smR_get {B : Nat} : ∀ {xs : List (List AV)}, smR B xs → ∀ x ∈ xs, smL B x
  | [], _, x, hx => by cases hx
  | y :: xs, h, x, hx => by
    simp only [smR] at h
    rcases List.mem_cons.1 hx with rfl | hx
    · exact h.1
    · exact smR_get h.2 x hx
theorem smR_of {B : Nat} : ∀ {xs : List (List AV)}, (∀ x ∈ xs, smL B x) → smR B xs
  | [], _ => by simp [smR]
  | y :: xs, h => by
    simp only [smR]
    exact ⟨h y List.mem_cons_self, smR_of fun x hx => h x (List.mem_cons_of_mem _ hx)⟩

section
variable {H : Type} {enc : TypeId × Value → H} {P : Program} {w : World} {bk : DataW H → Nat} {B : Nat} {α β : Type}
def NoO : Nat → Prop := fun _ => False
/-- What is read at this type lies in memory as these abstract cells. -/
def Rd (enc : TypeId × Value → H) (P : Program) (w : World) (bk : DataW H → Nat) (B : Nat) (t : TypeId) (c : α → List AV) : Prop :=
  ∀ (n : Nat) (cs : List Value) (d : DataW H) (ps : List MemPlace), DataW.trod enc P w 0 (fun _ => true) true n t cs = some (d, ps) → bk d ≤ B → ∃ x : α, (∀ μ, CvL w NoO (c x) μ cs) ∧ allOne (c x) ∧ smL B (c x)

theorem Rd.iso {t : TypeId} {c : α → List AV} {c' : β → List AV} (h : Rd enc P w bk B t c) (g : α → β) (hg : ∀ a, c' (g a) = c a) : Rd enc P w bk B t c' := fun n cs d ps h1 h2 => by
  obtain ⟨x, h3, h4, h5⟩ := h n cs d ps h1 h2
  exact ⟨g x, fun μ => by rw [hg]; exact h3 μ, by rw [hg]; exact h4, by rw [hg]; exact h5⟩
theorem rd_int {t : TypeId} {k : IntKind} (hu : P.underlying t = some (.int k)) : Rd enc P w bk B t (fun n : Int => [AV.int k n]) := fun n cs d ps h _ => by
  obtain ⟨m, rfl, _, hw⟩ := DataW.trod_int hu h
  exact ⟨m, fun μ => by simp only [CvL, Cv]; exact ⟨_, _, rfl, rfl, rfl⟩, fun c hc => by simp at hc; subst hc; rfl, by simp only [smL, sm]; exact ⟨hw, trivial⟩⟩
theorem rd_bool {t : TypeId} (hu : P.underlying t = some .bool) : Rd enc P w bk B t (fun b : Bool => [AV.bool b]) := fun n cs d ps h _ => by
  obtain ⟨m, rfl, _⟩ := DataW.trod_bool hu h
  exact ⟨m, fun μ => by simp only [CvL, Cv]; exact ⟨_, _, rfl, rfl, rfl⟩, fun c hc => by simp at hc; subst hc; rfl, by simp [smL, sm]⟩
theorem rd_str (hb : Bulk H bk B) {t : TypeId} (hu : P.underlying t = some .string) : Rd enc P w bk B t (fun s : Str => [AV.str s]) := fun n cs d ps h hB => by
  obtain ⟨s, rfl, hx, hl⟩ := DataW.trod_string hu h
  injection hx with hx _
  subst hx
  have hlen : s.data.toList.length ≤ B := hb.str _ (by simpa using hl) hB
  exact ⟨s.data.toList, fun μ => by simp only [CvL, Cv]; exact ⟨_, _, rfl, ⟨rfl, by simpa using hl⟩, rfl⟩, fun c hc => by simp at hc; subst hc; rfl, by simp only [smL, sm]; exact ⟨hlen, trivial⟩⟩
theorem list_of {Q : Nat → α → Prop} : ∀ (n : Nat), (∀ i, i < n → ∃ x, Q i x) → ∃ xs : List α, xs.length = n ∧ ∀ i (h : i < xs.length), Q i xs[i]
  | 0, _ => ⟨[], rfl, fun i h => by simp at h⟩
  | n + 1, h => by
    obtain ⟨xs, h1, h2⟩ := list_of n fun i hi => h i (by omega)
    obtain ⟨x, hx⟩ := h n (by omega)
    refine ⟨xs ++ [x], by simp [h1], fun i hi => ?_⟩
    by_cases hlt : i < xs.length
    · rw [List.getElem_append_left hlt]
      exact h2 i hlt
    · have : i = n := by simp at hi; omega
      subst this
      simp [← h1, hx] at hx ⊢
      simpa [h1] using hx
theorem rd_slice (hb : Bulk H bk B) {t e : TypeId} {c : α → List AV} {sz : Nat} (hu : P.underlying t = some (.slice e)) (hsz : P.cellsOf e = sz) (h0 : 0 < sz) (he : Rd enc P w bk B e c) (hl : ∀ x, (c x).length = sz) :
    Rd enc P w bk B t (fun xs : List α => [AV.lst sz (xs.map c)]) := fun n cs d ps h hB => by
  rcases Deep.open_slice hu h with ⟨rfl, _⟩ | ⟨a, len, cap, m, k, D, Pl, rfl, _, hle, hcap, hm, hx, hel⟩
  · refine ⟨[], fun μ => ?_, fun c hc => by simp at hc; subst hc; rfl, by simp [smL, sm, smR]⟩
    simp only [CvL, Cv]
    exact ⟨_, _, rfl, ⟨none, 0, rfl, Nat.le_refl _, Nat.zero_le _, .inl rfl⟩, rfl⟩
  · simp only [if_true] at hm
    subst hm
    injection hx with hx _
    subst hx
    have hB2 := hb.slice _ _ (by simp; omega) hB
    have hlenB : len ≤ B := by simpa using hB2.1
    have hDB : ∀ i, i < len → bk (D i) ≤ B := fun i hi => hB2.2 _ (List.mem_map.2 ⟨i, List.mem_range.2 hi, rfl⟩)
    obtain ⟨xs, hxl, hxs⟩ := list_of (Q := fun i x => ∃ cs', w.cells? 0 (a.add (i * sz)) sz = some cs' ∧ (∀ μ, CvL w NoO (c x) μ cs') ∧ allOne (c x) ∧ smL B (c x)) len fun i hi => by
      obtain ⟨cs', h1, h2⟩ := hel i (by omega)
      obtain ⟨x, h3, h4, h5⟩ := he k cs' (D i) (Pl i) h2 (hDB i hi)
      rw [hsz] at h1
      exact ⟨x, cs', h1, h3, h4, h5⟩
    refine ⟨xs, fun μ => ?_, fun c hc => by simp at hc; subst hc; rfl, ?_⟩
    · simp only [CvL]
      refine ⟨_, _, rfl, ?_, rfl⟩
      simp only [Cv, List.length_map, hxl]
      refine ⟨some a, m, rfl, hle, hcap, ?_⟩
      by_cases hlen : len = 0
      · left
        rw [List.map_eq_nil_iff]
        exact List.eq_nil_of_length_eq_zero (by omega)
      · right
        have cell : ∀ i, i < len → ∀ j, j < sz → ∃ cs' : List Value, (∀ μ, CvL w NoO (c (xs.getD i (xs[0]'(by omega)))) μ cs') ∧ cs'.length = sz ∧ w.cell? (if i * sz + j = 0 then a else { a with off := a.off + (i * sz + j), spot := none }) = cs'[j]? := fun i hi j hj => by
          obtain ⟨cs', h1, h2, _⟩ := hxs i (by omega)
          obtain ⟨_, g1, g2⟩ := World.cells?_some h1
          refine ⟨cs', by simpa [List.getD, show i < xs.length by omega] using h2, g1, ?_⟩
          rw [← g2 j hj]
          congr 1
          unfold Addr.add
          by_cases hij : i * sz = 0
          · rw [if_pos hij]
            by_cases hj0 : j = 0
            · rw [if_pos hj0, if_pos (by omega)]
            · rw [if_neg hj0, if_neg (by omega), show a.off + (i * sz + j) = a.off + j by omega]
          · rw [if_neg hij, if_neg (by omega)]
            by_cases hj0 : j = 0
            · rw [if_pos hj0, hj0, Nat.add_zero]
            · rw [if_neg hj0, Nat.add_assoc]
        have first : ∃ v, w.cell? a = some v := by
          obtain ⟨cs', _, h2, h3⟩ := cell 0 (by omega) 0 h0
          simp only [Nat.zero_mul, Nat.add_zero, if_true] at h3
          rw [h3]
          exact ⟨_, List.getElem?_eq_getElem (by omega)⟩
        obtain ⟨v0, hv0⟩ := first
        have hspot : a.spot = none := by
          unfold World.cell? at hv0
          split at hv0
          · cases hs : a.spot with
            | none => rfl
            | some q => simp [hs] at hv0
          · cases hv0
        have hlt : a.block < w.heap.size := by
          unfold World.cell? at hv0
          split at hv0
          · rename_i hh
            exact (Array.getElem?_eq_some_iff.1 hh).1
          · cases hv0
        obtain ⟨ab, ao, as1⟩ := a
        simp only at hspot hlt
        subst hspot
        refine ⟨ab, ao, rfl, hlt, fun h => h, CvR.of_get fun i x hi => ?_⟩
        obtain ⟨hi', rfl⟩ := List.getElem?_eq_some_iff.1 hi
        simp only [List.length_map] at hi'
        rw [List.getElem_map]
        obtain ⟨cs0, q1, q2, q3, q4⟩ := hxs i hi'
        refine ⟨hl _, CvC.of_get fun j av hj => ?_⟩
        have hjl : j < sz := by
          have := (List.getElem?_eq_some_iff.1 hj).1
          rw [hl] at this
          exact this
        obtain ⟨cs', h2, h3, h4⟩ := cell i (by omega) j hjl
        have hgd : xs.getD i (xs[0]'(by omega)) = xs[i] := by simp [List.getD, hi']
        rw [hgd] at h2
        obtain ⟨v, hv, hc⟩ := (h2 (fun _ => none)).get j av hj
        refine ⟨v, ?_, hc, q3 _ (List.mem_of_getElem? hj)⟩
        rw [← hv, ← h4]
        by_cases hz : i * sz + j = 0
        · rw [if_pos hz, show ao + i * sz + j = ao by omega]
        · rw [if_neg hz, Nat.add_assoc]
    · simp only [smL, sm, List.length_map]
      refine ⟨⟨by omega, smR_of fun y hy => ?_⟩, trivial⟩
      obtain ⟨x, hx, rfl⟩ := List.mem_map.1 hy
      obtain ⟨i, hi, rfl⟩ := List.getElem_of_mem hx
      obtain ⟨_, _, _, _, h5⟩ := hxs i hi
      exact h5
/-- The fields of a struct, from this place on. -/
def RdF (enc : TypeId × Value → H) (P : Program) (w : World) (bk : DataW H → Nat) (B : Nat) (fs : List Field) (off k : Nat) (c : α → List AV) : Prop :=
  ∀ (n : Nat) (cs : List Value) (xs : List (DataW H × List MemPlace)), (∀ (i : Nat) (f : Field), fs[i]? = some f → DataW.trod enc P w 0 (fun _ => true) true n f.type ((cs.drop f.offset).take (P.cellsOf f.type)) = xs[i]?) → xs.length = fs.length →
    (∀ y ∈ xs, bk y.1 ≤ B) → ∃ x : α, (∀ μ, CvL w NoO (c x) μ ((cs.drop off).take k)) ∧ allOne (c x) ∧ smL B (c x)
theorem rdf_nil {off : Nat} : RdF enc P w bk B [] off 0 (fun _ : Unit => []) := fun n cs xs _ _ _ => ⟨(), fun μ => by simp [CvL], fun c hc => by simp at hc, by simp [smL]⟩
theorem rdf_cons {f : Field} {fs : List Field} {off m k : Nat} {c : α → List AV} {c' : β → List AV} (ho : f.offset = off) (hm : P.cellsOf f.type = m) (h : Rd enc P w bk B f.type c) (h' : RdF enc P w bk B fs (off + m) k c') :
    RdF enc P w bk B (f :: fs) off (m + k) (fun p : α × β => c p.1 ++ c' p.2) := fun n cs xs hx hl hB => by
  cases xs with
  | nil => simp at hl
  | cons y ys =>
    have h1 := hx 0 f rfl
    rw [ho, hm] at h1
    obtain ⟨a, a1, a2, a3⟩ := h n _ y.1 y.2 h1 (hB y List.mem_cons_self)
    obtain ⟨b, b1, b2, b3⟩ := h' n cs ys (fun i f hi => hx (i + 1) f hi) (by simpa using hl) (fun z hz => hB z (List.mem_cons_of_mem _ hz))
    refine ⟨(a, b), fun μ => ?_, a2.append b2, smL_append a3 b3⟩
    rw [List.take_add, List.drop_drop]
    exact (a1 μ).append (b1 μ)
theorem rd_struct (hb : Bulk H bk B) {t : TypeId} {fs : Array Field} {k : Nat} {c : α → List AV} (hu : P.underlying t = some (.struct fs)) (hk : P.cellsOf t = k) (h : RdF enc P w bk B fs.toList 0 k c) : Rd enc P w bk B t c := fun n cs d ps h1 hB => by
  obtain ⟨xs, m, rfl, hx, hl, hxl, hel⟩ := DataW.trod_struct hu h1
  injection hx with hx _
  subst hx
  have hB2 := hb.agg _ hB
  obtain ⟨x, q1, q2, q3⟩ := h m cs xs (fun i f hi => hel i f (by simpa using hi)) (by simpa using hxl) (fun y hy => hB2 y.1 (List.mem_map_of_mem hy))
  refine ⟨x, fun μ => ?_, q2, q3⟩
  have := q1 μ
  rwa [List.drop_zero, List.take_of_length_le (by omega)] at this
/-! The same, by the table of types. -/
theorem und {Θ : TT} (hΘ : TTok P Θ) {t : TypeId} {y : Ty} (h : Θ t = some y) : P.underlying t = some y.d := by
  obtain ⟨i, h1, _⟩ := hΘ t y h
  exact h1
theorem cells_of {Θ : TT} (hΘ : TTok P Θ) {t : TypeId} {y : Ty} (h : Θ t = some y) : P.cellsOf t = y.size := by
  obtain ⟨i, _, h2, h3, _⟩ := hΘ t y h
  simp [Program.cellsOf, h2, h3]
theorem rt_int {Θ : TT} (hΘ : TTok P Θ) {t : TypeId} {y : Ty} {k : IntKind} (h : Θ t = some y) (hd : y.d = .int k) : Rd enc P w bk B t (fun n : Int => [AV.int k n]) := rd_int ((und hΘ h).trans (congrArg some hd))
theorem rt_bool {Θ : TT} (hΘ : TTok P Θ) {t : TypeId} {y : Ty} (h : Θ t = some y) (hd : y.d = .bool) : Rd enc P w bk B t (fun b : Bool => [AV.bool b]) := rd_bool ((und hΘ h).trans (congrArg some hd))
theorem rt_str {Θ : TT} (hΘ : TTok P Θ) (hb : Bulk H bk B) {t : TypeId} {y : Ty} (h : Θ t = some y) (hd : y.d = .string) : Rd enc P w bk B t (fun s : Str => [AV.str s]) := rd_str hb ((und hΘ h).trans (congrArg some hd))
theorem rt_slice {Θ : TT} (hΘ : TTok P Θ) (hb : Bulk H bk B) {t e : TypeId} {y z : Ty} {c : α → List AV} {sz : Nat} (h : Θ t = some y) (hd : y.d = .slice e) (hz : Θ e = some z) (hs : z.size = sz) (h0 : 0 < sz) (he : Rd enc P w bk B e c) (hl : ∀ x, (c x).length = sz) :
    Rd enc P w bk B t (fun xs : List α => [AV.lst sz (xs.map c)]) := rd_slice hb ((und hΘ h).trans (congrArg some hd)) ((cells_of hΘ hz).trans hs) h0 he hl
theorem rt_struct {Θ : TT} (hΘ : TTok P Θ) (hb : Bulk H bk B) {t : TypeId} {y : Ty} {fs : Array Field} {k : Nat} {c : α → List AV} (h : Θ t = some y) (hd : y.d = .struct fs) (hk : y.size = k) (hf : RdF enc P w bk B fs.toList 0 k c) : Rd enc P w bk B t c :=
  rd_struct hb ((und hΘ h).trans (congrArg some hd)) ((cells_of hΘ h).trans hk) hf
theorem rtf_cons {Θ : TT} (hΘ : TTok P Θ) {f : Field} {fs : List Field} {off m k n : Nat} {y : Ty} {c : α → List AV} {c' : β → List AV} (ho : f.offset = off) (hy : Θ f.type = some y) (hm : y.size = m) (hn : m + k = n) (h : Rd enc P w bk B f.type c) (h' : RdF enc P w bk B fs (off + m) k c') :
    RdF enc P w bk B (f :: fs) off n (fun p : α × β => c p.1 ++ c' p.2) := by
  subst hn
  exact rdf_cons ho ((cells_of hΘ hy).trans hm) h h'
/-- A value that is read: as an aggregate, or as one cell. -/
theorem Rd.agg {t : TypeId} {c : α → List AV} (h : Rd enc P w bk B t c) {v : Value} {d : DataW H} {ps : List MemPlace} (hd : DataW.Trod enc P w 0 (fun _ => true) true t v d ps) (hB : bk d ≤ B) (hv : ∃ vs, v = .agg vs) :
    ∃ x : α, (∀ μ, Cv w NoO (.agg (c x)) μ v) ∧ smL B (c x) := by
  obtain ⟨n, hn⟩ := hd
  obtain ⟨vs, rfl⟩ := hv
  obtain ⟨x, h1, h2, h3⟩ := h n _ d ps hn hB
  exact ⟨x, fun μ => by simp only [Cv]; exact ⟨vs, rfl, h1 μ, h2⟩, h3⟩
theorem Rd.one {t : TypeId} {c : α → AV} (h : Rd enc P w bk B t (fun x => [c x])) {v : Value} {d : DataW H} {ps : List MemPlace} (hd : DataW.Trod enc P w 0 (fun _ => true) true t v d ps) (hB : bk d ≤ B) (hv : v.cells = #[v]) :
    ∃ x : α, (∀ μ, Cv w NoO (c x) μ v) ∧ sm B (c x) := by
  obtain ⟨n, hn⟩ := hd
  rw [hv] at hn
  obtain ⟨x, h1, h2, h3⟩ := h n _ d ps hn hB
  refine ⟨x, fun μ => ?_, h3.1⟩
  have := h1 μ
  simp only [CvL] at this
  obtain ⟨y, ys, e, h4, _⟩ := this
  injection e with e _
  rw [e]
  exact h4
end

/-! The call. -/
theorem core_start {G : GlP} {w : World} (hg : G.holds w) (hn : G.ng ≤ w.heap.size) : Core G ⟨w, fun _ => none, NoO⟩ w (fun _ => none) (fun _ => none) :=
  ⟨hg, hn, fun b ⟨l, v, h⟩ => (by cases h), fun b ⟨l, v, h⟩ => (by cases h), fun b h => h.elim, fun b h => h.elim, fun b h => h.elim, fun l l' v v' b h => (by cases h), fun l => rfl, fun l o h => (by cases h), rfl, rfl, rfl, Nat.le_refl _, fun b _ _ => rfl,
    fun b ⟨l, v, h⟩ => (by cases h), Keeps.refl _⟩
theorem Core.below {G : GlP} {w w' : World} {μ : Mu} {L : Lbl → Option ABox} (C : Core G ⟨w, fun _ => none, NoO⟩ w' μ L) : Below w.heap.size w w' :=
  ⟨C.os, C.tape, C.output, C.size, fun k hk => C.frame k hk fun ⟨l, v, h⟩ => by cases h⟩
theorem NoO_eq {w : World} : (Env.O ⟨w, fun _ => none, NoO⟩ (fun _ => none)) = NoO := by
  funext b
  refine propext ⟨?_, fun h => h.elim⟩
  rintro (⟨l, v, h⟩ | h)
  · cases h
  · exact h
/-- A contract without boxes, called in a world. -/
theorem Meets.run {P : Program} {G : GlP} {f : FuncId} {args : List AV} {r : Bool} (h : Meets P G f args [] (.bool r) []) {w : World} (hg : G.holds w) (hn : G.ng ≤ w.heap.size) {vs : List Value} (hv : CvL w NoO args (fun _ => none) vs) :
    Calls P f vs.toArray w fun e w' => e = .returned (.bool r) ∧ Below w.heap.size w w' := by
  refine (h.calls ⟨w, fun _ => none, NoO⟩ w (fun _ => none) (fun _ => none) vs (core_start hg hn) (fun l b hb => by simp [getL] at hb) (fun l b hb => by simp [getL] at hb) (by rw [NoO_eq]; exact hv)).mono ?_
  rintro e w' ⟨v, rfl, μ', C, _, _, hc⟩
  simp only [Cv] at hc
  subst hc
  exact ⟨rfl, C.below⟩
section
variable {H : Type} {enc : TypeId × Value → H} {P : Program}
theorem trodAll_stays (hl : laidOutB P = true) {W W' : World} {sp : Nat → Bool} (hb : Below W.heap.size W W') : ∀ {ts : List TypeId} {vs : List Value} {ds : List (DataW H)} {ps : List MemPlace}, (∀ t ∈ ts, P.readableRec t = true ∧ t < P.types.size) →
    DataW.TrodAll enc P W 0 (fun _ => true) true ts vs ds ps → (∀ p ∈ ps, p.block < W.heap.size) → (∀ p ∈ ps, sp p.block = true) → DataW.TrodAll enc P W' 0 sp true ts vs ds ps
  | [], vs, ds, ps, _, h, _, _ => by
    obtain ⟨rfl, rfl, rfl⟩ := trodAll_nil h
    exact trodAll_mk0
  | t :: ts, vs, ds, ps, ht, h, h1, h2 => by
    obtain ⟨v, vs1, d, ds1, a, b, rfl, rfl, rfl, h3, h4⟩ := trodAll_cons h
    have h5 := ht t List.mem_cons_self
    exact ⟨a, b, WideElems.Trod_stays hl h5.1 h5.2 h3 (fun x hx => hb.same (h1 x (List.mem_append_left _ hx))) (fun x hx => h2 x (List.mem_append_left _ hx)),
      trodAll_stays hl hb (fun t ht' => ht t (List.mem_cons_of_mem _ ht')) h4 (fun p hp => h1 p (List.mem_append_right _ hp)) (fun p hp => h2 p (List.mem_append_right _ hp)), rfl⟩
/-- What a law's row asks behind the call, where all that was there lies as it lay. -/
theorem post_still {f : Func} {s : ChangeSpec} {apart fresh handsOn again : Bool} {W W' : World} {args : Array Value} {v : Value} {ds gs : List (DataW H)} {before : List MemPlace} (hl : laidOutB P = true)
    (hts : ∀ t ∈ f.params.toList, P.readableRec t = true ∧ t < P.types.size) (hvars : s.vars = []) (hargs : (s.fn H (ds ++ gs)).args = ds) (hvs : (s.fn H (ds ++ gs)).vars = [])
    (hW : DataW.Whole enc P f.params.toList s.vars apart W args.toList ds gs before)
    (hres : ∀ (b : Nat) (sp : Nat → Bool) (hd : Bool), DataW.TrodAll enc P W' b sp hd f.resultTypes.toList (v.resultList f.resultTypes.size) (s.fn H (ds ++ gs)).results [])
    (hb : Below W.heap.size W W')
    (hok : ∀ (j : Nat) (t : TypeId) (r : Value), f.resultTypes[j]? = some t → (v.resultList f.resultTypes.size)[j]? = some r → Value.okWide P W' .any 0 t r) :
    s.post enc P f apart fresh handsOn again W args v W' := by
  have hlt : ∀ p ∈ before, p.block < W.heap.size := fun p hp => hW.lt p hp
  have hW0 := hW
  obtain ⟨p, q, hA, hV, hpq, hz, hn⟩ := hW0
  have hA' : DataW.TrodAll enc P W 0 (fun _ => true) true f.params.toList args.toList ds p := hA
  rw [hvars] at hV
  obtain ⟨hgs, hq⟩ := trodVars_none hV
  have hbp : before = p := by rw [hpq, hq, List.append_nil]
  have key : ∀ sp : Nat → Bool, (∀ x ∈ before, sp x.block = true) → DataW.TrodAll enc P W' 0 sp true f.params.toList args.toList (s.fn H (ds ++ gs)).args p := fun sp hsp => by
    rw [hargs]
    exact trodAll_stays hl hb hts hA' (fun x hx => hlt x (by rw [hbp]; exact hx)) (fun x hx => hsp x (by rw [hbp]; exact hx))
  have kvars : ∀ sp : Nat → Bool, DataW.TrodVars enc P W' sp s.vars (s.fn H (ds ++ gs)).vars [] := fun sp => by rw [hvars, hvs]; rfl
  refine ⟨ds, gs, before, [], p, [], hW, hres _ _ _, key _ (fun x hx => by simpa using hlt x hx), kvars _, World.keptBut_mono (fun x hx => ⟨hx, by simpa [hbp] using hx⟩) (hb.frame (· ∈ before)), fun _ => ?_⟩
  refine ⟨hok, _, _, ([] ++ p) ++ [], ⟨[] ++ p, [], trodAll_append (key _ fun _ _ => rfl) (hres _ _ _), kvars _, rfl, ?_, ?_⟩, ?_⟩
  · intro b off hp
    have hin : MemPlace.cell b off ∈ before := by rw [hbp]; simpa using hp
    rw [hb.frozen (hlt _ hin)]
    exact hz b off hin
  · intro ha
    have := hn ha
    rw [hbp] at this
    simpa using this
  · intro x hx _
    simpa [hbp] using hx
end
section
variable {P : Program} {G : GlP} {Θ : TT} {o : Oper} {T : TL} {L : BL} {K : AV → BL → Nat → Prop}
theorem tri_shr {V : Operand → AV} (t t' : TypeId) (x y : Operand) (ho : o.op = .binOp .shr t x y t') (k k' : IntKind) (a b : Int) (hx : V x = .int k a) (hy : V y = .int k' b) (h0 : 0 ≤ b) (c : Int) (hc : a.fdiv (2 ^ (Min.min b.toNat k.bits)) = c) : Tri P G o V [] (.int k c) [] :=
  tri_pure fun E w μ Lf ρ C hf hv => by
    have hxv := hv x (by simp [ho, Op.operands])
    have hyv := hv y (by simp [ho, Op.operands])
    rw [hx] at hxv
    rw [hy] at hyv
    simp only [Cv] at hxv hyv
    have hg : ∀ p q, (eqGuard .shr t p q (.int k a) (.int k' b)).run P w = .ok () w := fun p q => by
      unfold eqGuard
      simp
    have hb : ¬ b < 0 := by omega
    refine ⟨.int k c, ?_, by simp only [Cv]⟩
    simp [execOp, ho, hxv, hyv, hg, binOp, Op.shift, hb, hc]
theorem OpTo.shr {t t' : TypeId} {x y : Operand} {k k' : IntKind} {a b c : Int} (ho : o.op = .binOp .shr t x y t') (hx : ev T x = .int k a) (hy : ev T y = .int k' b) (h0 : 0 ≤ b) (hc : a.fdiv (2 ^ (Min.min b.toNat k.bits)) = c) (hK : K (.int k c) [] 0) : OpTo P G o T L K :=
  mk_pure (tri_shr t t' x y ho k k' a b hx hy h0 c hc) hK
theorem tri_field {V : Operand → AV} (hΘ : TTok P Θ) (t : TypeId) (x : Operand) (f : Nat) (ho : o.op = .field t x f) {u : TypeId} {off : Nat} {z : Ty} (h : fieldOf Θ t f = some (u, off, z)) (cs : List AV) (hx : V x = .agg cs) (r : AV) (hr : takeV z (cs.drop off) = some r) : Tri P G o V [] r [] :=
  tri_pure fun E w μ Lf ρ C hf hv => by
    have hxv := hv x (by simp [ho, Op.operands])
    rw [hx] at hxv
    simp only [Cv] at hxv
    obtain ⟨vs, h1, h2, h3⟩ := hxv
    obtain ⟨y, fs, fd, g1, g2, g3, rfl, rfl, g4, g5⟩ := fieldOf_spec h
    have hu := r_under hΘ g1 w
    rw [g2] at hu
    have ha := r_isAgg hΘ g4 w
    have hs := r_size hΘ g4 w
    have h4 := h2.drop fd.offset
    unfold takeV at hr
    cases hz : z.agg with
    | true =>
      rw [hz] at hr ha
      simp only [cond_true] at hr
      cases hb : Nat.ble z.size (cs.drop fd.offset).length with
      | false => rw [hb] at hr; cases hr
      | true =>
        rw [hb] at hr
        simp only [cond_true, Option.some.injEq] at hr
        subst hr
        refine ⟨.agg (vs.extract fd.offset (fd.offset + z.size)), ?_, ?_⟩
        · simp [execOp, ho, h1, Instr.field, Sem.run_bind, hu, g3, part, ha, hs, asAgg]
        · simp only [Cv]
          refine ⟨_, rfl, ?_, (h3.drop _).take _⟩
          have e : (vs.extract fd.offset (fd.offset + z.size)).toList = (vs.toList.drop fd.offset).take z.size := by simp [Array.toList_extract, List.extract_eq_take_drop]
          rw [e]
          exact h4.take _
    | false =>
      rw [hz] at hr ha
      simp only [cond_false] at hr
      cases hd : cs.drop fd.offset with
      | nil => rw [hd] at hr; cases hr
      | cons a l =>
        rw [hd] at hr h4
        simp only [List.head?_cons, Option.some.injEq] at hr
        subst hr
        simp only [CvL] at h4
        obtain ⟨v, vl, e, q1, _⟩ := h4
        have hget : vs[fd.offset]? = some v := by
          have := congrArg (·[0]?) e
          simpa using this
        refine ⟨v, ?_, q1⟩
        simp [execOp, ho, h1, Instr.field, Sem.run_bind, hu, g3, part, ha, hget, asAgg]
theorem OpTo.field (hΘ : TTok P Θ) {t : TypeId} {x : Operand} {f : Nat} {u : TypeId} {off : Nat} {z : Ty} {cs : List AV} {r : AV} (ho : o.op = .field t x f) (h : fieldOf Θ t f = some (u, off, z)) (hx : ev T x = .agg cs) (hr : takeV z (cs.drop off) = some r) (hK : K r [] 0) : OpTo P G o T L K :=
  mk_pure (tri_field hΘ t x f ho h cs hx r hr) hK
theorem OpTo.eqB (hΘ : TTok P Θ) {t t' : TypeId} {x y : Operand} {ty : Ty} {a b r : Bool} (ho : o.op = .binOp .eql t x y t') (ht : Θ t = some ty) (hd : ty.d = .bool) (hx : ev T x = .bool a) (hy : ev T y = .bool b) (hr : (a == b) = r) (hK : K (.bool r) [] 0) : OpTo P G o T L K := by
  subst hr
  exact mk_pure (tri_boolEq .eql t t' x y ho hΘ ty ht hd a b hx hy (.inl rfl)) hK
end
end Go.Ab
/- A search by halving, over a function value. -/
set_option linter.unusedVariables false
set_option linter.unusedSimpArgs false
set_option maxRecDepth 10000
namespace Go.Proofs.YtmfolelgdpkkoaaGreatDoor
open Go Go.Ab
theorem m_sort_Search (G : GlP) (fv : AV) (p : Nat → Bool) (n : Nat) (hn : n ≤ 1099511627777) (hf : ∀ k : Nat, k < n → MeetsV Pg G fv [.int .i64 (k : Int)] [] (.bool (!p k)) []) (hfv : cloB (fun _ => false) fv = true) :
    Meets Pg G F_sort_Search [.int .i64 n, fv] [] (.int .i64 (srch p 0 n)) [] := by
  refine meets_pure (F := fe_sort_Search) hTh hMx func_sort_Search rfl call_sort_Search rfl (by simp only [cloL, cloB, cloB_free hfv, Bool.and_true]) rfl ?_
  conv => whnf
  refine LoopOK.weak _ _ ?_ ?_ ?_ (LoopOK.ind (fun i : Nat × Nat => i.2 - i.1) (fun i => [(1, fv), (5, .int .i64 (i.1 : Int)), (6, .int .i64 (i.2 : Int))]) (fun _ => []) (fun i => i.1 ≤ i.2 ∧ i.2 ≤ n ∧ srch p 0 n = srch p i.1 i.2) ?_ (0, n) ⟨Nat.zero_le _, Nat.le_refl _, rfl⟩)
  · exact ⟨rfl, rfl, rfl, trivial⟩
  · trivial
  · exact chk_mk ⟨cloB_free hfv, rfl, rfl, trivial⟩ trivial rfl
  rintro ⟨lo, hi⟩ ⟨h1, h2, h3⟩ IH
  simp only at h1 h2 h3 IH
  refine LoopOK.round hTh hMx ?_
  conv => whnf
  refine cond_split (fun h => ?_) (fun hz => ?_)
  · have hlt : lo < hi := by simpa using h
    have hm : ((lo : Int) + hi).fdiv 2 = (((lo + hi) / 2 : Nat) : Int) := by
      rw [Int.fdiv_eq_ediv_of_nonneg _ (by decide)]
      omega
    conv => whnf
    refine WrapTo.i64 (by omega) ?_
    conv => whnf
    refine OpTo.convI hTh rfl rfl rfl rfl rfl (c := (lo : Int) + hi) (IntWalk.u64_in _ (by omega)) ?_
    conv => whnf
    refine OpTo.shr rfl rfl rfl (by decide) (c := (((lo + hi) / 2 : Nat) : Int)) hm ?_
    conv => whnf
    refine OpTo.convI hTh rfl rfl rfl rfl rfl (c := (((lo + hi) / 2 : Nat) : Int)) (IntWalk.i64_in _ (by omega)) ?_
    conv => whnf
    refine CallTo.pure (hf _ (by omega)) ?_
    conv => whnf
    have e : srch p lo hi = if p ((lo + hi) / 2) then srch p ((lo + hi) / 2 + 1) hi else srch p lo ((lo + hi) / 2) := by
      rw [srch, dif_pos hlt]
    cases hp : p ((lo + hi) / 2)
    · conv => whnf
      refine LoopOK.weak _ _ ?_ ?_ ?_ (IH (lo, (lo + hi) / 2) (by simp only; omega) ⟨by simp only; omega, by simp only; omega, by simp only; rw [h3, e, hp]; rfl⟩)
      · exact ⟨rfl, rfl, rfl, trivial⟩
      · trivial
      · exact chk_mk ⟨cloB_free hfv, rfl, rfl, trivial⟩ trivial rfl
    · conv => whnf
      refine WrapTo.i64 (by omega) ?_
      conv => whnf
      refine LoopOK.weak _ _ ?_ ?_ ?_ (IH ((lo + hi) / 2 + 1, hi) (by simp only; omega) ⟨by simp only; omega, by simp only; omega, by simp only; rw [h3, e, hp]; rfl⟩)
      · exact ⟨rfl, rfl, rfl, trivial⟩
      · trivial
      · exact chk_mk ⟨cloB_free hfv, rfl, rfl, trivial⟩ trivial rfl
  · have hge : ¬ lo < hi := by simpa using hz
    have e : srch p 0 n = lo := by rw [h3, srch, dif_neg hge]
    rw [e]
    conv => whnf
    exact Fin.one hTh rfl (rfl) rfl
end Go.Proofs.YtmfolelgdpkkoaaGreatDoor
