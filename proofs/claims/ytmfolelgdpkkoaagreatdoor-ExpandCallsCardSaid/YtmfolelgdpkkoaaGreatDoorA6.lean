/- The contracts of the generic functions, type by type: copies, comparisons, searches. Written by a program of ours. -/
import Derived.Test.YtmfolelgdpkkoaaGreatDoorA5
set_option linter.unusedVariables false
set_option maxRecDepth 10000
namespace Go.Proofs.YtmfolelgdpkkoaaGreatDoor
open Go Go.Ab
theorem m_slices_Clone_string_string (G : GlP) (xs : List Str) (hl : xs.length ≤ 4294967296) : Meets Pg G F_slices_Clone_string_string [.lst 1 (xs.map cS)] [] (.lst 1 (xs.map cS)) [] := by
  refine meets_pure (F := fe_slices_Clone_string_string) hTh hMx func_slices_Clone_string_string rfl call_slices_Clone_string_string rfl rfl rfl ?_
  by_cases hx : xs = []
  · subst hx
    conv => whnf
    refine OpTo.nilS hTh rfl (.inl rfl) rfl rfl trivial ?_
    conv => whnf
    refine ⟨?_, ?_⟩
    · conv => whnf
      exact Fin.emp hTh rfl rfl
    · conv => whnf
      refine ⟨hl, ?_⟩
      conv => whnf
      exact Fin.own hTh rfl rfl rfl rfl Clo.nil
  · conv => whnf
    refine OpTo.nilL hTh (fun e => hx (by simpa using e)) rfl (.inl rfl) rfl rfl rfl ?_
    conv => whnf
    refine ⟨by simpa using hl, ?_⟩
    conv => whnf
    exact Fin.own hTh rfl rfl rfl rfl (Clo.map fS xs)
theorem m_slices_Index_string_string (G : GlP) (xs : List Str) (n : Str) (hl : xs.length ≤ 4294967296) : Meets Pg G F_slices_Index_string_string [.lst 1 (xs.map cS), .str n] [] (.int .i64 (fidx (fun x => n == x) xs)) [] := by
  refine meets_pure (F := fe_slices_Index_string_string) hTh hMx func_slices_Index_string_string rfl call_slices_Index_string_string rfl rfl rfl ?_
  conv => whnf
  refine LoopOK.weak _ _ ?_ ?_ ?_ (LoopOK.ind (fun i : Nat => xs.length - i) (fun i => [(0, .lst 1 (xs.map cS)), (1, .str n), (7, .int .i64 (xs.map cS).length), (8, .int .i64 i)]) (fun _ => []) (fun i => i ≤ xs.length ∧ ∀ x ∈ xs.take i, (fun x => n == x) x = false) ?_ 0 ⟨by omega, by simp⟩)
  · exact ⟨rfl, rfl, rfl, rfl, trivial⟩
  · trivial
  · rfl
  intro i ⟨hi, hb⟩ IH
  refine LoopOK.round hTh hMx ?_
  conv => whnf
  refine cond_split (fun h => ?_) (fun h => ?_)
  · have hlt := lt_of_dec h
    conv => whnf
    refine IndexTo.at (map_at cS hlt) ?_
    conv => whnf
    refine cond_split (fun he => ?_) (fun he => ?_)
    · conv => whnf
      exact Fin.one hTh rfl (congrArg (AV.int .i64) (fidx_hit hlt he hb).symm) rfl
    · conv => whnf
      refine WrapTo.i64 (by omega) ?_
      conv => whnf
      refine LoopOK.weak _ _ ?_ ?_ ?_ (IH (i + 1) (by omega) ⟨by omega, none_succ hb hlt he⟩)
      · exact ⟨rfl, rfl, rfl, rfl, trivial⟩
      · trivial
      · rfl
  · have hge := le_of_dec h
    conv => whnf
    exact Fin.one hTh rfl (congrArg (AV.int .i64) (fidx_miss (none_all hb hge)).symm) rfl
theorem m_slices_Contains_string_string (G : GlP) (xs : List Str) (n : Str) (hl : xs.length ≤ 4294967296) : Meets Pg G F_slices_Contains_string_string [.lst 1 (xs.map cS), .str n] [] (.bool (xs.any (fun x => n == x))) [] := by
  refine meets_pure (F := fe_slices_Contains_string_string) hTh hMx func_slices_Contains_string_string rfl call_slices_Contains_string_string rfl rfl rfl ?_
  conv => whnf
  refine CallTo.fn (m_slices_Index_string_string G xs n hl) ?_
  conv => whnf
  exact Fin.one hTh rfl (congrArg AV.bool (fidx_geq _ _)) rfl
theorem m_slices_IndexFunc_string_string (G : GlP) (xs : List Str) (fv : AV) (p : Str → Bool) (hf : ∀ x, x ∈ xs → MeetsV Pg G fv [.str x] [] (.bool (p x)) []) (hfv : cloB (fun _ => false) fv = true) (hl : xs.length ≤ 4294967296) : Meets Pg G F_slices_IndexFunc_string_string [.lst 1 (xs.map cS), fv] [] (.int .i64 (fidx p xs)) [] := by
  refine meets_pure (F := fe_slices_IndexFunc_string_string) hTh hMx func_slices_IndexFunc_string_string rfl call_slices_IndexFunc_string_string rfl (clo_args hfv) rfl ?_
  conv => whnf
  refine LoopOK.weak _ _ ?_ ?_ ?_ (LoopOK.ind (fun i : Nat => xs.length - i) (fun i => [(0, .lst 1 (xs.map cS)), (1, fv), (7, .int .i64 (xs.map cS).length), (8, .int .i64 i)]) (fun _ => []) (fun i => i ≤ xs.length ∧ ∀ x ∈ xs.take i, p x = false) ?_ 0 ⟨by omega, by simp⟩)
  · exact ⟨rfl, rfl, rfl, rfl, trivial⟩
  · trivial
  · exact clo_fv hfv
  intro i ⟨hi, hb⟩ IH
  refine LoopOK.round hTh hMx ?_
  conv => whnf
  refine cond_split (fun h => ?_) (fun h => ?_)
  · have hlt := lt_of_dec h
    conv => whnf
    refine IndexTo.at (map_at cS hlt) ?_
    conv => whnf
    refine CallTo.pure (hf _ (List.getElem_mem hlt)) ?_
    conv => whnf
    refine cond_split (fun he => ?_) (fun he => ?_)
    · conv => whnf
      exact Fin.one hTh rfl (congrArg (AV.int .i64) (fidx_hit hlt he hb).symm) rfl
    · conv => whnf
      refine WrapTo.i64 (by omega) ?_
      conv => whnf
      refine LoopOK.weak _ _ ?_ ?_ ?_ (IH (i + 1) (by omega) ⟨by omega, none_succ hb hlt he⟩)
      · exact ⟨rfl, rfl, rfl, rfl, trivial⟩
      · trivial
      · exact clo_fv hfv
  · have hge := le_of_dec h
    conv => whnf
    exact Fin.one hTh rfl (congrArg (AV.int .i64) (fidx_miss (none_all hb hge)).symm) rfl
theorem m_slices_ContainsFunc_string_string (G : GlP) (xs : List Str) (fv : AV) (p : Str → Bool) (hf : ∀ x, x ∈ xs → MeetsV Pg G fv [.str x] [] (.bool (p x)) []) (hfv : cloB (fun _ => false) fv = true) (hl : xs.length ≤ 4294967296) : Meets Pg G F_slices_ContainsFunc_string_string [.lst 1 (xs.map cS), fv] [] (.bool (xs.any p)) [] := by
  refine meets_pure (F := fe_slices_ContainsFunc_string_string) hTh hMx func_slices_ContainsFunc_string_string rfl call_slices_ContainsFunc_string_string rfl (clo_args hfv) rfl ?_
  conv => whnf
  refine CallTo.fn (m_slices_IndexFunc_string_string G xs fv p hf hfv hl) ?_
  conv => whnf
  exact Fin.one hTh rfl (congrArg AV.bool (fidx_geq _ _)) rfl
theorem m_slices_Index_int_int (G : GlP) (xs : List Int) (n : Int) (hl : xs.length ≤ 4294967296) : Meets Pg G F_slices_Index_int_int [.lst 1 (xs.map cI), .int .i64 n] [] (.int .i64 (fidx (fun x => n == x) xs)) [] := by
  refine meets_pure (F := fe_slices_Index_int_int) hTh hMx func_slices_Index_int_int rfl call_slices_Index_int_int rfl rfl rfl ?_
  conv => whnf
  refine LoopOK.weak _ _ ?_ ?_ ?_ (LoopOK.ind (fun i : Nat => xs.length - i) (fun i => [(0, .lst 1 (xs.map cI)), (1, .int .i64 n), (7, .int .i64 (xs.map cI).length), (8, .int .i64 i)]) (fun _ => []) (fun i => i ≤ xs.length ∧ ∀ x ∈ xs.take i, (fun x => n == x) x = false) ?_ 0 ⟨by omega, by simp⟩)
  · exact ⟨rfl, rfl, rfl, rfl, trivial⟩
  · trivial
  · rfl
  intro i ⟨hi, hb⟩ IH
  refine LoopOK.round hTh hMx ?_
  conv => whnf
  refine cond_split (fun h => ?_) (fun h => ?_)
  · have hlt := lt_of_dec h
    conv => whnf
    refine IndexTo.at (map_at cI hlt) ?_
    conv => whnf
    refine cond_split (fun he => ?_) (fun he => ?_)
    · conv => whnf
      exact Fin.one hTh rfl (congrArg (AV.int .i64) (fidx_hit hlt he hb).symm) rfl
    · conv => whnf
      refine WrapTo.i64 (by omega) ?_
      conv => whnf
      refine LoopOK.weak _ _ ?_ ?_ ?_ (IH (i + 1) (by omega) ⟨by omega, none_succ hb hlt he⟩)
      · exact ⟨rfl, rfl, rfl, rfl, trivial⟩
      · trivial
      · rfl
  · have hge := le_of_dec h
    conv => whnf
    exact Fin.one hTh rfl (congrArg (AV.int .i64) (fidx_miss (none_all hb hge)).symm) rfl
theorem m_slices_Contains_int_int (G : GlP) (xs : List Int) (n : Int) (hl : xs.length ≤ 4294967296) : Meets Pg G F_slices_Contains_int_int [.lst 1 (xs.map cI), .int .i64 n] [] (.bool (xs.any (fun x => n == x))) [] := by
  refine meets_pure (F := fe_slices_Contains_int_int) hTh hMx func_slices_Contains_int_int rfl call_slices_Contains_int_int rfl rfl rfl ?_
  conv => whnf
  refine CallTo.fn (m_slices_Index_int_int G xs n hl) ?_
  conv => whnf
  exact Fin.one hTh rfl (congrArg AV.bool (fidx_geq _ _)) rfl
theorem m_slices_IndexFunc_int_int (G : GlP) (xs : List Int) (fv : AV) (p : Int → Bool) (hf : ∀ x, x ∈ xs → MeetsV Pg G fv [.int .i64 x] [] (.bool (p x)) []) (hfv : cloB (fun _ => false) fv = true) (hl : xs.length ≤ 4294967296) : Meets Pg G F_slices_IndexFunc_int_int [.lst 1 (xs.map cI), fv] [] (.int .i64 (fidx p xs)) [] := by
  refine meets_pure (F := fe_slices_IndexFunc_int_int) hTh hMx func_slices_IndexFunc_int_int rfl call_slices_IndexFunc_int_int rfl (clo_args hfv) rfl ?_
  conv => whnf
  refine LoopOK.weak _ _ ?_ ?_ ?_ (LoopOK.ind (fun i : Nat => xs.length - i) (fun i => [(0, .lst 1 (xs.map cI)), (1, fv), (7, .int .i64 (xs.map cI).length), (8, .int .i64 i)]) (fun _ => []) (fun i => i ≤ xs.length ∧ ∀ x ∈ xs.take i, p x = false) ?_ 0 ⟨by omega, by simp⟩)
  · exact ⟨rfl, rfl, rfl, rfl, trivial⟩
  · trivial
  · exact clo_fv hfv
  intro i ⟨hi, hb⟩ IH
  refine LoopOK.round hTh hMx ?_
  conv => whnf
  refine cond_split (fun h => ?_) (fun h => ?_)
  · have hlt := lt_of_dec h
    conv => whnf
    refine IndexTo.at (map_at cI hlt) ?_
    conv => whnf
    refine CallTo.pure (hf _ (List.getElem_mem hlt)) ?_
    conv => whnf
    refine cond_split (fun he => ?_) (fun he => ?_)
    · conv => whnf
      exact Fin.one hTh rfl (congrArg (AV.int .i64) (fidx_hit hlt he hb).symm) rfl
    · conv => whnf
      refine WrapTo.i64 (by omega) ?_
      conv => whnf
      refine LoopOK.weak _ _ ?_ ?_ ?_ (IH (i + 1) (by omega) ⟨by omega, none_succ hb hlt he⟩)
      · exact ⟨rfl, rfl, rfl, rfl, trivial⟩
      · trivial
      · exact clo_fv hfv
  · have hge := le_of_dec h
    conv => whnf
    exact Fin.one hTh rfl (congrArg (AV.int .i64) (fidx_miss (none_all hb hge)).symm) rfl
theorem m_slices_ContainsFunc_int_int (G : GlP) (xs : List Int) (fv : AV) (p : Int → Bool) (hf : ∀ x, x ∈ xs → MeetsV Pg G fv [.int .i64 x] [] (.bool (p x)) []) (hfv : cloB (fun _ => false) fv = true) (hl : xs.length ≤ 4294967296) : Meets Pg G F_slices_ContainsFunc_int_int [.lst 1 (xs.map cI), fv] [] (.bool (xs.any p)) [] := by
  refine meets_pure (F := fe_slices_ContainsFunc_int_int) hTh hMx func_slices_ContainsFunc_int_int rfl call_slices_ContainsFunc_int_int rfl (clo_args hfv) rfl ?_
  conv => whnf
  refine CallTo.fn (m_slices_IndexFunc_int_int G xs fv p hf hfv hl) ?_
  conv => whnf
  exact Fin.one hTh rfl (congrArg AV.bool (fidx_geq _ _)) rfl
theorem m_kit_Own_int64 (G : GlP) (xs : List Int) (hl : xs.length ≤ 4294967296) : Meets Pg G F_kit_Own_int64 [.lst 1 (xs.map cI)] [] (.lst 1 (xs.map cI)) [] := by
  refine meets_pure (F := fe_kit_Own_int64) hTh hMx func_kit_Own_int64 rfl call_kit_Own_int64 rfl rfl rfl ?_
  conv => whnf
  refine ⟨by simpa using hl, ?_⟩
  conv => whnf
  exact Fin.own hTh rfl rfl rfl rfl (Clo.map fI xs)
theorem m_slices_Clone_int64_int64 (G : GlP) (xs : List Int) (hl : xs.length ≤ 4294967296) : Meets Pg G F_slices_Clone_int64_int64 [.lst 1 (xs.map cI)] [] (.lst 1 (xs.map cI)) [] := by
  refine meets_pure (F := fe_slices_Clone_int64_int64) hTh hMx func_slices_Clone_int64_int64 rfl call_slices_Clone_int64_int64 rfl rfl rfl ?_
  by_cases hx : xs = []
  · subst hx
    conv => whnf
    refine OpTo.nilS hTh rfl (.inl rfl) rfl rfl trivial ?_
    conv => whnf
    refine ⟨?_, ?_⟩
    · conv => whnf
      exact Fin.emp hTh rfl rfl
    · conv => whnf
      refine ⟨hl, ?_⟩
      conv => whnf
      exact Fin.own hTh rfl rfl rfl rfl Clo.nil
  · conv => whnf
    refine OpTo.nilL hTh (fun e => hx (by simpa using e)) rfl (.inl rfl) rfl rfl rfl ?_
    conv => whnf
    refine ⟨by simpa using hl, ?_⟩
    conv => whnf
    exact Fin.own hTh rfl rfl rfl rfl (Clo.map fI xs)
theorem m_kit_Same_int64 (G : GlP) (xs ys : List Int) (hl : xs.length ≤ 4294967296) : Meets Pg G F_kit_Same_int64 [.lst 1 (xs.map cI), .lst 1 (ys.map cI)] [] (.bool (decide (xs = ys))) [] := by
  refine meets_pure (F := fe_kit_Same_int64) hTh hMx func_kit_Same_int64 rfl call_kit_Same_int64 rfl rfl rfl ?_
  conv => whnf
  refine cond_split (fun h => ?_) (fun h => ?_)
  · conv => whnf
    exact Fin.one hTh rfl (AV.no (ne_of_dec h)) rfl
  have hlen := len_of_dec h
  conv => whnf
  refine LoopOK.weak _ _ ?_ ?_ ?_ (LoopOK.ind (fun i : Nat => xs.length - i) (fun i => [(0, .lst 1 (xs.map cI)), (1, .lst 1 (ys.map cI)), (5, .int .i64 i)]) (fun _ => []) (fun i => i ≤ xs.length ∧ xs.take i = ys.take i) ?_ 0 ⟨by omega, by simp⟩)
  · exact ⟨rfl, rfl, rfl, trivial⟩
  · trivial
  · rfl
  intro i ⟨hi, hb⟩ IH
  refine LoopOK.round hTh hMx ?_
  conv => whnf
  refine cond_split (fun h => ?_) (fun h => ?_)
  · have hlt := lt_of_dec h
    conv => whnf
    refine IndexTo.at (map_at cI hlt) ?_
    conv => whnf
    refine IndexTo.at (map_at cI (show i < ys.length by omega)) ?_
    conv => whnf
    refine ⟨by kernel_rfl, ?_⟩
    conv => whnf
    refine cond_split (fun he => ?_) (fun he => ?_)
    · conv => whnf
      exact Fin.one hTh rfl (AV.no (ne_of_get hlt (by omega) (by simpa using he))) rfl
    · conv => whnf
      refine WrapTo.i64 (by omega) ?_
      conv => whnf
      refine LoopOK.weak _ _ ?_ ?_ ?_ (IH (i + 1) (by omega) ⟨by omega, take_eq_succ hb hlt (by omega) (by simpa using he)⟩)
      · exact ⟨rfl, rfl, rfl, trivial⟩
      · trivial
      · rfl
  · have hge := le_of_dec h
    conv => whnf
    exact Fin.one hTh rfl (AV.yes (take_eq_all hb hge hlen)) rfl
theorem m_slices_IndexFunc_int64_int64 (G : GlP) (xs : List Int) (fv : AV) (p : Int → Bool) (hf : ∀ x, x ∈ xs → MeetsV Pg G fv [.int .i64 x] [] (.bool (p x)) []) (hfv : cloB (fun _ => false) fv = true) (hl : xs.length ≤ 4294967296) : Meets Pg G F_slices_IndexFunc_int64_int64 [.lst 1 (xs.map cI), fv] [] (.int .i64 (fidx p xs)) [] := by
  refine meets_pure (F := fe_slices_IndexFunc_int64_int64) hTh hMx func_slices_IndexFunc_int64_int64 rfl call_slices_IndexFunc_int64_int64 rfl (clo_args hfv) rfl ?_
  conv => whnf
  refine LoopOK.weak _ _ ?_ ?_ ?_ (LoopOK.ind (fun i : Nat => xs.length - i) (fun i => [(0, .lst 1 (xs.map cI)), (1, fv), (7, .int .i64 (xs.map cI).length), (8, .int .i64 i)]) (fun _ => []) (fun i => i ≤ xs.length ∧ ∀ x ∈ xs.take i, p x = false) ?_ 0 ⟨by omega, by simp⟩)
  · exact ⟨rfl, rfl, rfl, rfl, trivial⟩
  · trivial
  · exact clo_fv hfv
  intro i ⟨hi, hb⟩ IH
  refine LoopOK.round hTh hMx ?_
  conv => whnf
  refine cond_split (fun h => ?_) (fun h => ?_)
  · have hlt := lt_of_dec h
    conv => whnf
    refine IndexTo.at (map_at cI hlt) ?_
    conv => whnf
    refine CallTo.pure (hf _ (List.getElem_mem hlt)) ?_
    conv => whnf
    refine cond_split (fun he => ?_) (fun he => ?_)
    · conv => whnf
      exact Fin.one hTh rfl (congrArg (AV.int .i64) (fidx_hit hlt he hb).symm) rfl
    · conv => whnf
      refine WrapTo.i64 (by omega) ?_
      conv => whnf
      refine LoopOK.weak _ _ ?_ ?_ ?_ (IH (i + 1) (by omega) ⟨by omega, none_succ hb hlt he⟩)
      · exact ⟨rfl, rfl, rfl, rfl, trivial⟩
      · trivial
      · exact clo_fv hfv
  · have hge := le_of_dec h
    conv => whnf
    exact Fin.one hTh rfl (congrArg (AV.int .i64) (fidx_miss (none_all hb hge)).symm) rfl
theorem m_slices_ContainsFunc_int64_int64 (G : GlP) (xs : List Int) (fv : AV) (p : Int → Bool) (hf : ∀ x, x ∈ xs → MeetsV Pg G fv [.int .i64 x] [] (.bool (p x)) []) (hfv : cloB (fun _ => false) fv = true) (hl : xs.length ≤ 4294967296) : Meets Pg G F_slices_ContainsFunc_int64_int64 [.lst 1 (xs.map cI), fv] [] (.bool (xs.any p)) [] := by
  refine meets_pure (F := fe_slices_ContainsFunc_int64_int64) hTh hMx func_slices_ContainsFunc_int64_int64 rfl call_slices_ContainsFunc_int64_int64 rfl (clo_args hfv) rfl ?_
  conv => whnf
  refine CallTo.fn (m_slices_IndexFunc_int64_int64 G xs fv p hf hfv hl) ?_
  conv => whnf
  exact Fin.one hTh rfl (congrArg AV.bool (fidx_geq _ _)) rfl
theorem m_slices_IndexFunc_api_Route_api_Route (G : GlP) (xs : List Rte) (fv : AV) (p : Rte → Bool) (hf : ∀ x, x ∈ xs → MeetsV Pg G fv [(.agg (cRte x))] [] (.bool (p x)) []) (hfv : cloB (fun _ => false) fv = true) (hl : xs.length ≤ 4294967296) : Meets Pg G F_slices_IndexFunc_api_Route_api_Route [.lst 4 (xs.map cRte), fv] [] (.int .i64 (fidx p xs)) [] := by
  refine meets_pure (F := fe_slices_IndexFunc_api_Route_api_Route) hTh hMx func_slices_IndexFunc_api_Route_api_Route rfl call_slices_IndexFunc_api_Route_api_Route rfl (clo_args hfv) rfl ?_
  conv => whnf
  refine LoopOK.weak _ _ ?_ ?_ ?_ (LoopOK.ind (fun i : Nat => xs.length - i) (fun i => [(0, .lst 4 (xs.map cRte)), (1, fv), (7, .int .i64 (xs.map cRte).length), (8, .int .i64 i)]) (fun _ => []) (fun i => i ≤ xs.length ∧ ∀ x ∈ xs.take i, p x = false) ?_ 0 ⟨by omega, by simp⟩)
  · exact ⟨rfl, rfl, rfl, rfl, trivial⟩
  · trivial
  · exact clo_fv hfv
  intro i ⟨hi, hb⟩ IH
  refine LoopOK.round hTh hMx ?_
  conv => whnf
  refine cond_split (fun h => ?_) (fun h => ?_)
  · have hlt := lt_of_dec h
    conv => whnf
    refine IndexTo.at (map_at cRte hlt) ?_
    conv => whnf
    refine CallTo.pure (hf _ (List.getElem_mem hlt)) ?_
    conv => whnf
    refine cond_split (fun he => ?_) (fun he => ?_)
    · conv => whnf
      exact Fin.one hTh rfl (congrArg (AV.int .i64) (fidx_hit hlt he hb).symm) rfl
    · conv => whnf
      refine WrapTo.i64 (by omega) ?_
      conv => whnf
      refine LoopOK.weak _ _ ?_ ?_ ?_ (IH (i + 1) (by omega) ⟨by omega, none_succ hb hlt he⟩)
      · exact ⟨rfl, rfl, rfl, rfl, trivial⟩
      · trivial
      · exact clo_fv hfv
  · have hge := le_of_dec h
    conv => whnf
    exact Fin.one hTh rfl (congrArg (AV.int .i64) (fidx_miss (none_all hb hge)).symm) rfl
theorem m_slices_ContainsFunc_api_Route_api_Route (G : GlP) (xs : List Rte) (fv : AV) (p : Rte → Bool) (hf : ∀ x, x ∈ xs → MeetsV Pg G fv [(.agg (cRte x))] [] (.bool (p x)) []) (hfv : cloB (fun _ => false) fv = true) (hl : xs.length ≤ 4294967296) : Meets Pg G F_slices_ContainsFunc_api_Route_api_Route [.lst 4 (xs.map cRte), fv] [] (.bool (xs.any p)) [] := by
  refine meets_pure (F := fe_slices_ContainsFunc_api_Route_api_Route) hTh hMx func_slices_ContainsFunc_api_Route_api_Route rfl call_slices_ContainsFunc_api_Route_api_Route rfl (clo_args hfv) rfl ?_
  conv => whnf
  refine CallTo.fn (m_slices_IndexFunc_api_Route_api_Route G xs fv p hf hfv hl) ?_
  conv => whnf
  exact Fin.one hTh rfl (congrArg AV.bool (fidx_geq _ _)) rfl
theorem m_slices_IndexFunc_api_PathOf_api_PathOf (G : GlP) (xs : List PthO) (fv : AV) (p : PthO → Bool) (hf : ∀ x, x ∈ xs → MeetsV Pg G fv [(.agg (cPthO x))] [] (.bool (p x)) []) (hfv : cloB (fun _ => false) fv = true) (hl : xs.length ≤ 4294967296) : Meets Pg G F_slices_IndexFunc_api_PathOf_api_PathOf [.lst 3 (xs.map cPthO), fv] [] (.int .i64 (fidx p xs)) [] := by
  refine meets_pure (F := fe_slices_IndexFunc_api_PathOf_api_PathOf) hTh hMx func_slices_IndexFunc_api_PathOf_api_PathOf rfl call_slices_IndexFunc_api_PathOf_api_PathOf rfl (clo_args hfv) rfl ?_
  conv => whnf
  refine LoopOK.weak _ _ ?_ ?_ ?_ (LoopOK.ind (fun i : Nat => xs.length - i) (fun i => [(0, .lst 3 (xs.map cPthO)), (1, fv), (7, .int .i64 (xs.map cPthO).length), (8, .int .i64 i)]) (fun _ => []) (fun i => i ≤ xs.length ∧ ∀ x ∈ xs.take i, p x = false) ?_ 0 ⟨by omega, by simp⟩)
  · exact ⟨rfl, rfl, rfl, rfl, trivial⟩
  · trivial
  · exact clo_fv hfv
  intro i ⟨hi, hb⟩ IH
  refine LoopOK.round hTh hMx ?_
  conv => whnf
  refine cond_split (fun h => ?_) (fun h => ?_)
  · have hlt := lt_of_dec h
    conv => whnf
    refine IndexTo.at (map_at cPthO hlt) ?_
    conv => whnf
    refine CallTo.pure (hf _ (List.getElem_mem hlt)) ?_
    conv => whnf
    refine cond_split (fun he => ?_) (fun he => ?_)
    · conv => whnf
      exact Fin.one hTh rfl (congrArg (AV.int .i64) (fidx_hit hlt he hb).symm) rfl
    · conv => whnf
      refine WrapTo.i64 (by omega) ?_
      conv => whnf
      refine LoopOK.weak _ _ ?_ ?_ ?_ (IH (i + 1) (by omega) ⟨by omega, none_succ hb hlt he⟩)
      · exact ⟨rfl, rfl, rfl, rfl, trivial⟩
      · trivial
      · exact clo_fv hfv
  · have hge := le_of_dec h
    conv => whnf
    exact Fin.one hTh rfl (congrArg (AV.int .i64) (fidx_miss (none_all hb hge)).symm) rfl
theorem m_slices_ContainsFunc_api_PathOf_api_PathOf (G : GlP) (xs : List PthO) (fv : AV) (p : PthO → Bool) (hf : ∀ x, x ∈ xs → MeetsV Pg G fv [(.agg (cPthO x))] [] (.bool (p x)) []) (hfv : cloB (fun _ => false) fv = true) (hl : xs.length ≤ 4294967296) : Meets Pg G F_slices_ContainsFunc_api_PathOf_api_PathOf [.lst 3 (xs.map cPthO), fv] [] (.bool (xs.any p)) [] := by
  refine meets_pure (F := fe_slices_ContainsFunc_api_PathOf_api_PathOf) hTh hMx func_slices_ContainsFunc_api_PathOf_api_PathOf rfl call_slices_ContainsFunc_api_PathOf_api_PathOf rfl (clo_args hfv) rfl ?_
  conv => whnf
  refine CallTo.fn (m_slices_IndexFunc_api_PathOf_api_PathOf G xs fv p hf hfv hl) ?_
  conv => whnf
  exact Fin.one hTh rfl (congrArg AV.bool (fidx_geq _ _)) rfl
theorem m_slices_IndexFunc_api_DoorOf_api_DoorOf (G : GlP) (xs : List DorO) (fv : AV) (p : DorO → Bool) (hf : ∀ x, x ∈ xs → MeetsV Pg G fv [(.agg (cDorO x))] [] (.bool (p x)) []) (hfv : cloB (fun _ => false) fv = true) (hl : xs.length ≤ 4294967296) : Meets Pg G F_slices_IndexFunc_api_DoorOf_api_DoorOf [.lst 6 (xs.map cDorO), fv] [] (.int .i64 (fidx p xs)) [] := by
  refine meets_pure (F := fe_slices_IndexFunc_api_DoorOf_api_DoorOf) hTh hMx func_slices_IndexFunc_api_DoorOf_api_DoorOf rfl call_slices_IndexFunc_api_DoorOf_api_DoorOf rfl (clo_args hfv) rfl ?_
  conv => whnf
  refine LoopOK.weak _ _ ?_ ?_ ?_ (LoopOK.ind (fun i : Nat => xs.length - i) (fun i => [(0, .lst 6 (xs.map cDorO)), (1, fv), (7, .int .i64 (xs.map cDorO).length), (8, .int .i64 i)]) (fun _ => []) (fun i => i ≤ xs.length ∧ ∀ x ∈ xs.take i, p x = false) ?_ 0 ⟨by omega, by simp⟩)
  · exact ⟨rfl, rfl, rfl, rfl, trivial⟩
  · trivial
  · exact clo_fv hfv
  intro i ⟨hi, hb⟩ IH
  refine LoopOK.round hTh hMx ?_
  conv => whnf
  refine cond_split (fun h => ?_) (fun h => ?_)
  · have hlt := lt_of_dec h
    conv => whnf
    refine IndexTo.at (map_at cDorO hlt) ?_
    conv => whnf
    refine CallTo.pure (hf _ (List.getElem_mem hlt)) ?_
    conv => whnf
    refine cond_split (fun he => ?_) (fun he => ?_)
    · conv => whnf
      exact Fin.one hTh rfl (congrArg (AV.int .i64) (fidx_hit hlt he hb).symm) rfl
    · conv => whnf
      refine WrapTo.i64 (by omega) ?_
      conv => whnf
      refine LoopOK.weak _ _ ?_ ?_ ?_ (IH (i + 1) (by omega) ⟨by omega, none_succ hb hlt he⟩)
      · exact ⟨rfl, rfl, rfl, rfl, trivial⟩
      · trivial
      · exact clo_fv hfv
  · have hge := le_of_dec h
    conv => whnf
    exact Fin.one hTh rfl (congrArg (AV.int .i64) (fidx_miss (none_all hb hge)).symm) rfl
theorem m_slices_ContainsFunc_api_DoorOf_api_DoorOf (G : GlP) (xs : List DorO) (fv : AV) (p : DorO → Bool) (hf : ∀ x, x ∈ xs → MeetsV Pg G fv [(.agg (cDorO x))] [] (.bool (p x)) []) (hfv : cloB (fun _ => false) fv = true) (hl : xs.length ≤ 4294967296) : Meets Pg G F_slices_ContainsFunc_api_DoorOf_api_DoorOf [.lst 6 (xs.map cDorO), fv] [] (.bool (xs.any p)) [] := by
  refine meets_pure (F := fe_slices_ContainsFunc_api_DoorOf_api_DoorOf) hTh hMx func_slices_ContainsFunc_api_DoorOf_api_DoorOf rfl call_slices_ContainsFunc_api_DoorOf_api_DoorOf rfl (clo_args hfv) rfl ?_
  conv => whnf
  refine CallTo.fn (m_slices_IndexFunc_api_DoorOf_api_DoorOf G xs fv p hf hfv hl) ?_
  conv => whnf
  exact Fin.one hTh rfl (congrArg AV.bool (fidx_geq _ _)) rfl
theorem m_slices_IndexFunc_api_RouteOf_api_RouteOf (G : GlP) (xs : List RteO) (fv : AV) (p : RteO → Bool) (hf : ∀ x, x ∈ xs → MeetsV Pg G fv [(.agg (cRteO x))] [] (.bool (p x)) []) (hfv : cloB (fun _ => false) fv = true) (hl : xs.length ≤ 4294967296) : Meets Pg G F_slices_IndexFunc_api_RouteOf_api_RouteOf [.lst 3 (xs.map cRteO), fv] [] (.int .i64 (fidx p xs)) [] := by
  refine meets_pure (F := fe_slices_IndexFunc_api_RouteOf_api_RouteOf) hTh hMx func_slices_IndexFunc_api_RouteOf_api_RouteOf rfl call_slices_IndexFunc_api_RouteOf_api_RouteOf rfl (clo_args hfv) rfl ?_
  conv => whnf
  refine LoopOK.weak _ _ ?_ ?_ ?_ (LoopOK.ind (fun i : Nat => xs.length - i) (fun i => [(0, .lst 3 (xs.map cRteO)), (1, fv), (7, .int .i64 (xs.map cRteO).length), (8, .int .i64 i)]) (fun _ => []) (fun i => i ≤ xs.length ∧ ∀ x ∈ xs.take i, p x = false) ?_ 0 ⟨by omega, by simp⟩)
  · exact ⟨rfl, rfl, rfl, rfl, trivial⟩
  · trivial
  · exact clo_fv hfv
  intro i ⟨hi, hb⟩ IH
  refine LoopOK.round hTh hMx ?_
  conv => whnf
  refine cond_split (fun h => ?_) (fun h => ?_)
  · have hlt := lt_of_dec h
    conv => whnf
    refine IndexTo.at (map_at cRteO hlt) ?_
    conv => whnf
    refine CallTo.pure (hf _ (List.getElem_mem hlt)) ?_
    conv => whnf
    refine cond_split (fun he => ?_) (fun he => ?_)
    · conv => whnf
      exact Fin.one hTh rfl (congrArg (AV.int .i64) (fidx_hit hlt he hb).symm) rfl
    · conv => whnf
      refine WrapTo.i64 (by omega) ?_
      conv => whnf
      refine LoopOK.weak _ _ ?_ ?_ ?_ (IH (i + 1) (by omega) ⟨by omega, none_succ hb hlt he⟩)
      · exact ⟨rfl, rfl, rfl, rfl, trivial⟩
      · trivial
      · exact clo_fv hfv
  · have hge := le_of_dec h
    conv => whnf
    exact Fin.one hTh rfl (congrArg (AV.int .i64) (fidx_miss (none_all hb hge)).symm) rfl
theorem m_slices_ContainsFunc_api_RouteOf_api_RouteOf (G : GlP) (xs : List RteO) (fv : AV) (p : RteO → Bool) (hf : ∀ x, x ∈ xs → MeetsV Pg G fv [(.agg (cRteO x))] [] (.bool (p x)) []) (hfv : cloB (fun _ => false) fv = true) (hl : xs.length ≤ 4294967296) : Meets Pg G F_slices_ContainsFunc_api_RouteOf_api_RouteOf [.lst 3 (xs.map cRteO), fv] [] (.bool (xs.any p)) [] := by
  refine meets_pure (F := fe_slices_ContainsFunc_api_RouteOf_api_RouteOf) hTh hMx func_slices_ContainsFunc_api_RouteOf_api_RouteOf rfl call_slices_ContainsFunc_api_RouteOf_api_RouteOf rfl (clo_args hfv) rfl ?_
  conv => whnf
  refine CallTo.fn (m_slices_IndexFunc_api_RouteOf_api_RouteOf G xs fv p hf hfv hl) ?_
  conv => whnf
  exact Fin.one hTh rfl (congrArg AV.bool (fidx_geq _ _)) rfl
theorem m_slices_IndexFunc_api_TripOf_api_TripOf (G : GlP) (xs : List TrpO) (fv : AV) (p : TrpO → Bool) (hf : ∀ x, x ∈ xs → MeetsV Pg G fv [(.agg (cTrpO x))] [] (.bool (p x)) []) (hfv : cloB (fun _ => false) fv = true) (hl : xs.length ≤ 4294967296) : Meets Pg G F_slices_IndexFunc_api_TripOf_api_TripOf [.lst 4 (xs.map cTrpO), fv] [] (.int .i64 (fidx p xs)) [] := by
  refine meets_pure (F := fe_slices_IndexFunc_api_TripOf_api_TripOf) hTh hMx func_slices_IndexFunc_api_TripOf_api_TripOf rfl call_slices_IndexFunc_api_TripOf_api_TripOf rfl (clo_args hfv) rfl ?_
  conv => whnf
  refine LoopOK.weak _ _ ?_ ?_ ?_ (LoopOK.ind (fun i : Nat => xs.length - i) (fun i => [(0, .lst 4 (xs.map cTrpO)), (1, fv), (7, .int .i64 (xs.map cTrpO).length), (8, .int .i64 i)]) (fun _ => []) (fun i => i ≤ xs.length ∧ ∀ x ∈ xs.take i, p x = false) ?_ 0 ⟨by omega, by simp⟩)
  · exact ⟨rfl, rfl, rfl, rfl, trivial⟩
  · trivial
  · exact clo_fv hfv
  intro i ⟨hi, hb⟩ IH
  refine LoopOK.round hTh hMx ?_
  conv => whnf
  refine cond_split (fun h => ?_) (fun h => ?_)
  · have hlt := lt_of_dec h
    conv => whnf
    refine IndexTo.at (map_at cTrpO hlt) ?_
    conv => whnf
    refine CallTo.pure (hf _ (List.getElem_mem hlt)) ?_
    conv => whnf
    refine cond_split (fun he => ?_) (fun he => ?_)
    · conv => whnf
      exact Fin.one hTh rfl (congrArg (AV.int .i64) (fidx_hit hlt he hb).symm) rfl
    · conv => whnf
      refine WrapTo.i64 (by omega) ?_
      conv => whnf
      refine LoopOK.weak _ _ ?_ ?_ ?_ (IH (i + 1) (by omega) ⟨by omega, none_succ hb hlt he⟩)
      · exact ⟨rfl, rfl, rfl, rfl, trivial⟩
      · trivial
      · exact clo_fv hfv
  · have hge := le_of_dec h
    conv => whnf
    exact Fin.one hTh rfl (congrArg (AV.int .i64) (fidx_miss (none_all hb hge)).symm) rfl
theorem m_slices_ContainsFunc_api_TripOf_api_TripOf (G : GlP) (xs : List TrpO) (fv : AV) (p : TrpO → Bool) (hf : ∀ x, x ∈ xs → MeetsV Pg G fv [(.agg (cTrpO x))] [] (.bool (p x)) []) (hfv : cloB (fun _ => false) fv = true) (hl : xs.length ≤ 4294967296) : Meets Pg G F_slices_ContainsFunc_api_TripOf_api_TripOf [.lst 4 (xs.map cTrpO), fv] [] (.bool (xs.any p)) [] := by
  refine meets_pure (F := fe_slices_ContainsFunc_api_TripOf_api_TripOf) hTh hMx func_slices_ContainsFunc_api_TripOf_api_TripOf rfl call_slices_ContainsFunc_api_TripOf_api_TripOf rfl (clo_args hfv) rfl ?_
  conv => whnf
  refine CallTo.fn (m_slices_IndexFunc_api_TripOf_api_TripOf G xs fv p hf hfv hl) ?_
  conv => whnf
  exact Fin.one hTh rfl (congrArg AV.bool (fidx_geq _ _)) rfl
theorem m_slices_IndexFunc_api_HazardOf_api_HazardOf (G : GlP) (xs : List HzdO) (fv : AV) (p : HzdO → Bool) (hf : ∀ x, x ∈ xs → MeetsV Pg G fv [(.agg (cHzdO x))] [] (.bool (p x)) []) (hfv : cloB (fun _ => false) fv = true) (hl : xs.length ≤ 4294967296) : Meets Pg G F_slices_IndexFunc_api_HazardOf_api_HazardOf [.lst 5 (xs.map cHzdO), fv] [] (.int .i64 (fidx p xs)) [] := by
  refine meets_pure (F := fe_slices_IndexFunc_api_HazardOf_api_HazardOf) hTh hMx func_slices_IndexFunc_api_HazardOf_api_HazardOf rfl call_slices_IndexFunc_api_HazardOf_api_HazardOf rfl (clo_args hfv) rfl ?_
  conv => whnf
  refine LoopOK.weak _ _ ?_ ?_ ?_ (LoopOK.ind (fun i : Nat => xs.length - i) (fun i => [(0, .lst 5 (xs.map cHzdO)), (1, fv), (7, .int .i64 (xs.map cHzdO).length), (8, .int .i64 i)]) (fun _ => []) (fun i => i ≤ xs.length ∧ ∀ x ∈ xs.take i, p x = false) ?_ 0 ⟨by omega, by simp⟩)
  · exact ⟨rfl, rfl, rfl, rfl, trivial⟩
  · trivial
  · exact clo_fv hfv
  intro i ⟨hi, hb⟩ IH
  refine LoopOK.round hTh hMx ?_
  conv => whnf
  refine cond_split (fun h => ?_) (fun h => ?_)
  · have hlt := lt_of_dec h
    conv => whnf
    refine IndexTo.at (map_at cHzdO hlt) ?_
    conv => whnf
    refine CallTo.pure (hf _ (List.getElem_mem hlt)) ?_
    conv => whnf
    refine cond_split (fun he => ?_) (fun he => ?_)
    · conv => whnf
      exact Fin.one hTh rfl (congrArg (AV.int .i64) (fidx_hit hlt he hb).symm) rfl
    · conv => whnf
      refine WrapTo.i64 (by omega) ?_
      conv => whnf
      refine LoopOK.weak _ _ ?_ ?_ ?_ (IH (i + 1) (by omega) ⟨by omega, none_succ hb hlt he⟩)
      · exact ⟨rfl, rfl, rfl, rfl, trivial⟩
      · trivial
      · exact clo_fv hfv
  · have hge := le_of_dec h
    conv => whnf
    exact Fin.one hTh rfl (congrArg (AV.int .i64) (fidx_miss (none_all hb hge)).symm) rfl
theorem m_slices_ContainsFunc_api_HazardOf_api_HazardOf (G : GlP) (xs : List HzdO) (fv : AV) (p : HzdO → Bool) (hf : ∀ x, x ∈ xs → MeetsV Pg G fv [(.agg (cHzdO x))] [] (.bool (p x)) []) (hfv : cloB (fun _ => false) fv = true) (hl : xs.length ≤ 4294967296) : Meets Pg G F_slices_ContainsFunc_api_HazardOf_api_HazardOf [.lst 5 (xs.map cHzdO), fv] [] (.bool (xs.any p)) [] := by
  refine meets_pure (F := fe_slices_ContainsFunc_api_HazardOf_api_HazardOf) hTh hMx func_slices_ContainsFunc_api_HazardOf_api_HazardOf rfl call_slices_ContainsFunc_api_HazardOf_api_HazardOf rfl (clo_args hfv) rfl ?_
  conv => whnf
  refine CallTo.fn (m_slices_IndexFunc_api_HazardOf_api_HazardOf G xs fv p hf hfv hl) ?_
  conv => whnf
  exact Fin.one hTh rfl (congrArg AV.bool (fidx_geq _ _)) rfl
theorem m_world_all_string_int (G : GlP) (xs : List Str) (fv : AV) (g : Str → Int) (hf : ∀ x, x ∈ xs → MeetsV Pg G fv [.str x] [] (.int .i64 (g x)) []) (hfv : cloB (fun _ => false) fv = true) (hl : xs.length ≤ 4294967296) :
    Meets Pg G F_world_all_string_int [.lst 1 (xs.map cS), fv] [] (.lst 1 ((xs.map g).map cI)) [] := by
  rw [List.map_map]
  refine meets_pure (F := fe_world_all_string_int) hTh hMx func_world_all_string_int rfl call_world_all_string_int rfl (clo_args hfv) rfl ?_
  conv => whnf
  refine LoopOK.conv (Conv.empOwn 4 rfl (F_world_all_string_int, 18) rfl T_int 1) (LoopOK.weak _ _ ?_ ?_ ?_ (LoopOK.ind (fun i : Nat => xs.length - i)
    (fun i => [(0, .lst 1 (xs.map cS)), (1, fv), (7, .lst 1 (xs.map cS)), (8, .int .i64 (xs.map cS).length), (9, .int .i64 i), (4, .own (F_world_all_string_int, 18) i)]) (fun i => [((F_world_all_string_int, 18), .row T_int 1 ((xs.take i).map fun x => cI (g x)))]) (fun i => i ≤ xs.length) ?_ 0 (by omega)))
  · exact ⟨rfl, rfl, rfl, rfl, rfl, rfl, trivial⟩
  · exact ⟨rfl, trivial⟩
  · exact clo_all hfv (Clo.map (fun x => fI (g x)) _)
  intro i hi IH
  refine LoopOK.round hTh hMx ?_
  conv => whnf
  refine cond_split (fun h => ?_) (fun h => ?_)
  · have hlt := lt_of_dec h
    conv => whnf
    refine IndexTo.at (map_at cS hlt) ?_
    conv => whnf
    refine CallTo.pure (hf _ (List.getElem_mem hlt)) ?_
    conv => whnf
    refine ⟨by simp; omega, by simp; omega, ?_⟩
    conv => whnf
    refine WrapTo.i64 (by omega) ?_
    conv => whnf
    refine LoopOK.weak _ _ ?_ ?_ ?_ (IH (i + 1) (by omega) (by omega))
    · exact ⟨rfl, rfl, rfl, rfl, rfl, rfl, trivial⟩
    · exact ⟨congrArg (fun z => some (ABox.row T_int 1 z)) (map_succ (f := fun x => cI (g x)) hlt), trivial⟩
    · exact clo_all hfv (Clo.map (fun x => fI (g x)) _)
  · have hge := le_of_dec h
    conv => whnf
    rw [show xs.map (cI ∘ g) = (xs.take i).map (fun x => cI (g x)) from (map_all (f := fun x => cI (g x)) hge).symm]
    exact Fin.own hTh rfl rfl rfl (by simp; omega) (Clo.map (fun x => fI (g x)) _)
theorem m_world_all_int_string (G : GlP) (xs : List Int) (fv : AV) (g : Int → Str) (hf : ∀ x, x ∈ xs → MeetsV Pg G fv [.int .i64 x] [] (.str (g x)) []) (hfv : cloB (fun _ => false) fv = true) (hl : xs.length ≤ 4294967296) :
    Meets Pg G F_world_all_int_string [.lst 1 (xs.map cI), fv] [] (.lst 1 ((xs.map g).map cS)) [] := by
  rw [List.map_map]
  refine meets_pure (F := fe_world_all_int_string) hTh hMx func_world_all_int_string rfl call_world_all_int_string rfl (clo_args hfv) rfl ?_
  conv => whnf
  refine LoopOK.conv (Conv.empOwn 4 rfl (F_world_all_int_string, 18) rfl T_string 1) (LoopOK.weak _ _ ?_ ?_ ?_ (LoopOK.ind (fun i : Nat => xs.length - i)
    (fun i => [(0, .lst 1 (xs.map cI)), (1, fv), (7, .lst 1 (xs.map cI)), (8, .int .i64 (xs.map cI).length), (9, .int .i64 i), (4, .own (F_world_all_int_string, 18) i)]) (fun i => [((F_world_all_int_string, 18), .row T_string 1 ((xs.take i).map fun x => cS (g x)))]) (fun i => i ≤ xs.length) ?_ 0 (by omega)))
  · exact ⟨rfl, rfl, rfl, rfl, rfl, rfl, trivial⟩
  · exact ⟨rfl, trivial⟩
  · exact clo_all hfv (Clo.map (fun x => fS (g x)) _)
  intro i hi IH
  refine LoopOK.round hTh hMx ?_
  conv => whnf
  refine cond_split (fun h => ?_) (fun h => ?_)
  · have hlt := lt_of_dec h
    conv => whnf
    refine IndexTo.at (map_at cI hlt) ?_
    conv => whnf
    refine CallTo.pure (hf _ (List.getElem_mem hlt)) ?_
    conv => whnf
    refine ⟨by simp; omega, by simp; omega, ?_⟩
    conv => whnf
    refine WrapTo.i64 (by omega) ?_
    conv => whnf
    refine LoopOK.weak _ _ ?_ ?_ ?_ (IH (i + 1) (by omega) (by omega))
    · exact ⟨rfl, rfl, rfl, rfl, rfl, rfl, trivial⟩
    · exact ⟨congrArg (fun z => some (ABox.row T_string 1 z)) (map_succ (f := fun x => cS (g x)) hlt), trivial⟩
    · exact clo_all hfv (Clo.map (fun x => fS (g x)) _)
  · have hge := le_of_dec h
    conv => whnf
    rw [show xs.map (cS ∘ g) = (xs.take i).map (fun x => cS (g x)) from (map_all (f := fun x => cS (g x)) hge).symm]
    exact Fin.own hTh rfl rfl rfl (by simp; omega) (Clo.map (fun x => fS (g x)) _)
theorem m_world_all_api_Path_string (G : GlP) (xs : List Pth) (fv : AV) (g : Pth → Str) (hf : ∀ x, x ∈ xs → MeetsV Pg G fv [(.agg (cPth x))] [] (.str (g x)) []) (hfv : cloB (fun _ => false) fv = true) (hl : xs.length ≤ 4294967296) :
    Meets Pg G F_world_all_api_Path_string [.lst 4 (xs.map cPth), fv] [] (.lst 1 ((xs.map g).map cS)) [] := by
  rw [List.map_map]
  refine meets_pure (F := fe_world_all_api_Path_string) hTh hMx func_world_all_api_Path_string rfl call_world_all_api_Path_string rfl (clo_args hfv) rfl ?_
  conv => whnf
  refine LoopOK.conv (Conv.empOwn 4 rfl (F_world_all_api_Path_string, 18) rfl T_string 1) (LoopOK.weak _ _ ?_ ?_ ?_ (LoopOK.ind (fun i : Nat => xs.length - i)
    (fun i => [(0, .lst 4 (xs.map cPth)), (1, fv), (7, .lst 4 (xs.map cPth)), (8, .int .i64 (xs.map cPth).length), (9, .int .i64 i), (4, .own (F_world_all_api_Path_string, 18) i)]) (fun i => [((F_world_all_api_Path_string, 18), .row T_string 1 ((xs.take i).map fun x => cS (g x)))]) (fun i => i ≤ xs.length) ?_ 0 (by omega)))
  · exact ⟨rfl, rfl, rfl, rfl, rfl, rfl, trivial⟩
  · exact ⟨rfl, trivial⟩
  · exact clo_all hfv (Clo.map (fun x => fS (g x)) _)
  intro i hi IH
  refine LoopOK.round hTh hMx ?_
  conv => whnf
  refine cond_split (fun h => ?_) (fun h => ?_)
  · have hlt := lt_of_dec h
    conv => whnf
    refine IndexTo.at (map_at cPth hlt) ?_
    conv => whnf
    refine CallTo.pure (hf _ (List.getElem_mem hlt)) ?_
    conv => whnf
    refine ⟨by simp; omega, by simp; omega, ?_⟩
    conv => whnf
    refine WrapTo.i64 (by omega) ?_
    conv => whnf
    refine LoopOK.weak _ _ ?_ ?_ ?_ (IH (i + 1) (by omega) (by omega))
    · exact ⟨rfl, rfl, rfl, rfl, rfl, rfl, trivial⟩
    · exact ⟨congrArg (fun z => some (ABox.row T_string 1 z)) (map_succ (f := fun x => cS (g x)) hlt), trivial⟩
    · exact clo_all hfv (Clo.map (fun x => fS (g x)) _)
  · have hge := le_of_dec h
    conv => whnf
    rw [show xs.map (cS ∘ g) = (xs.take i).map (fun x => cS (g x)) from (map_all (f := fun x => cS (g x)) hge).symm]
    exact Fin.own hTh rfl rfl rfl (by simp; omega) (Clo.map (fun x => fS (g x)) _)
theorem m_world_all_api_Path_api_PathOf (G : GlP) (xs : List Pth) (fv : AV) (g : Pth → PthO) (hf : ∀ x, x ∈ xs → MeetsV Pg G fv [(.agg (cPth x))] [] (.agg (cPthO (g x))) []) (hfv : cloB (fun _ => false) fv = true) (hl : xs.length ≤ 4294967296) :
    Meets Pg G F_world_all_api_Path_api_PathOf [.lst 4 (xs.map cPth), fv] [] (.lst 3 ((xs.map g).map cPthO)) [] := by
  rw [List.map_map]
  refine meets_pure (F := fe_world_all_api_Path_api_PathOf) hTh hMx func_world_all_api_Path_api_PathOf rfl call_world_all_api_Path_api_PathOf rfl (clo_args hfv) rfl ?_
  conv => whnf
  refine LoopOK.conv (Conv.empOwn 4 rfl (F_world_all_api_Path_api_PathOf, 18) rfl T_api_PathOf 3) (LoopOK.weak _ _ ?_ ?_ ?_ (LoopOK.ind (fun i : Nat => xs.length - i)
    (fun i => [(0, .lst 4 (xs.map cPth)), (1, fv), (7, .lst 4 (xs.map cPth)), (8, .int .i64 (xs.map cPth).length), (9, .int .i64 i), (4, .own (F_world_all_api_Path_api_PathOf, 18) i)]) (fun i => [((F_world_all_api_Path_api_PathOf, 18), .row T_api_PathOf 3 ((xs.take i).map fun x => cPthO (g x)))]) (fun i => i ≤ xs.length) ?_ 0 (by omega)))
  · exact ⟨rfl, rfl, rfl, rfl, rfl, rfl, trivial⟩
  · exact ⟨rfl, trivial⟩
  · exact clo_all hfv (Clo.map (fun x => fPthO (g x)) _)
  intro i hi IH
  refine LoopOK.round hTh hMx ?_
  conv => whnf
  refine cond_split (fun h => ?_) (fun h => ?_)
  · have hlt := lt_of_dec h
    conv => whnf
    refine IndexTo.at (map_at cPth hlt) ?_
    conv => whnf
    refine CallTo.pure (hf _ (List.getElem_mem hlt)) ?_
    conv => whnf
    refine ⟨by simp; omega, by simp; omega, ?_⟩
    conv => whnf
    refine WrapTo.i64 (by omega) ?_
    conv => whnf
    refine LoopOK.weak _ _ ?_ ?_ ?_ (IH (i + 1) (by omega) (by omega))
    · exact ⟨rfl, rfl, rfl, rfl, rfl, rfl, trivial⟩
    · exact ⟨congrArg (fun z => some (ABox.row T_api_PathOf 3 z)) (map_succ (f := fun x => cPthO (g x)) hlt), trivial⟩
    · exact clo_all hfv (Clo.map (fun x => fPthO (g x)) _)
  · have hge := le_of_dec h
    conv => whnf
    rw [show xs.map (cPthO ∘ g) = (xs.take i).map (fun x => cPthO (g x)) from (map_all (f := fun x => cPthO (g x)) hge).symm]
    exact Fin.own hTh rfl rfl rfl (by simp; omega) (Clo.map (fun x => fPthO (g x)) _)
theorem m_world_all_api_Door_string (G : GlP) (xs : List Dor) (fv : AV) (g : Dor → Str) (hf : ∀ x, x ∈ xs → MeetsV Pg G fv [(.agg (cDor x))] [] (.str (g x)) []) (hfv : cloB (fun _ => false) fv = true) (hl : xs.length ≤ 4294967296) :
    Meets Pg G F_world_all_api_Door_string [.lst 7 (xs.map cDor), fv] [] (.lst 1 ((xs.map g).map cS)) [] := by
  rw [List.map_map]
  refine meets_pure (F := fe_world_all_api_Door_string) hTh hMx func_world_all_api_Door_string rfl call_world_all_api_Door_string rfl (clo_args hfv) rfl ?_
  conv => whnf
  refine LoopOK.conv (Conv.empOwn 4 rfl (F_world_all_api_Door_string, 18) rfl T_string 1) (LoopOK.weak _ _ ?_ ?_ ?_ (LoopOK.ind (fun i : Nat => xs.length - i)
    (fun i => [(0, .lst 7 (xs.map cDor)), (1, fv), (7, .lst 7 (xs.map cDor)), (8, .int .i64 (xs.map cDor).length), (9, .int .i64 i), (4, .own (F_world_all_api_Door_string, 18) i)]) (fun i => [((F_world_all_api_Door_string, 18), .row T_string 1 ((xs.take i).map fun x => cS (g x)))]) (fun i => i ≤ xs.length) ?_ 0 (by omega)))
  · exact ⟨rfl, rfl, rfl, rfl, rfl, rfl, trivial⟩
  · exact ⟨rfl, trivial⟩
  · exact clo_all hfv (Clo.map (fun x => fS (g x)) _)
  intro i hi IH
  refine LoopOK.round hTh hMx ?_
  conv => whnf
  refine cond_split (fun h => ?_) (fun h => ?_)
  · have hlt := lt_of_dec h
    conv => whnf
    refine IndexTo.at (map_at cDor hlt) ?_
    conv => whnf
    refine CallTo.pure (hf _ (List.getElem_mem hlt)) ?_
    conv => whnf
    refine ⟨by simp; omega, by simp; omega, ?_⟩
    conv => whnf
    refine WrapTo.i64 (by omega) ?_
    conv => whnf
    refine LoopOK.weak _ _ ?_ ?_ ?_ (IH (i + 1) (by omega) (by omega))
    · exact ⟨rfl, rfl, rfl, rfl, rfl, rfl, trivial⟩
    · exact ⟨congrArg (fun z => some (ABox.row T_string 1 z)) (map_succ (f := fun x => cS (g x)) hlt), trivial⟩
    · exact clo_all hfv (Clo.map (fun x => fS (g x)) _)
  · have hge := le_of_dec h
    conv => whnf
    rw [show xs.map (cS ∘ g) = (xs.take i).map (fun x => cS (g x)) from (map_all (f := fun x => cS (g x)) hge).symm]
    exact Fin.own hTh rfl rfl rfl (by simp; omega) (Clo.map (fun x => fS (g x)) _)
theorem m_world_all_api_Door_api_DoorOf (G : GlP) (xs : List Dor) (fv : AV) (g : Dor → DorO) (hf : ∀ x, x ∈ xs → MeetsV Pg G fv [(.agg (cDor x))] [] (.agg (cDorO (g x))) []) (hfv : cloB (fun _ => false) fv = true) (hl : xs.length ≤ 4294967296) :
    Meets Pg G F_world_all_api_Door_api_DoorOf [.lst 7 (xs.map cDor), fv] [] (.lst 6 ((xs.map g).map cDorO)) [] := by
  rw [List.map_map]
  refine meets_pure (F := fe_world_all_api_Door_api_DoorOf) hTh hMx func_world_all_api_Door_api_DoorOf rfl call_world_all_api_Door_api_DoorOf rfl (clo_args hfv) rfl ?_
  conv => whnf
  refine LoopOK.conv (Conv.empOwn 4 rfl (F_world_all_api_Door_api_DoorOf, 18) rfl T_api_DoorOf 6) (LoopOK.weak _ _ ?_ ?_ ?_ (LoopOK.ind (fun i : Nat => xs.length - i)
    (fun i => [(0, .lst 7 (xs.map cDor)), (1, fv), (7, .lst 7 (xs.map cDor)), (8, .int .i64 (xs.map cDor).length), (9, .int .i64 i), (4, .own (F_world_all_api_Door_api_DoorOf, 18) i)]) (fun i => [((F_world_all_api_Door_api_DoorOf, 18), .row T_api_DoorOf 6 ((xs.take i).map fun x => cDorO (g x)))]) (fun i => i ≤ xs.length) ?_ 0 (by omega)))
  · exact ⟨rfl, rfl, rfl, rfl, rfl, rfl, trivial⟩
  · exact ⟨rfl, trivial⟩
  · exact clo_all hfv (Clo.map (fun x => fDorO (g x)) _)
  intro i hi IH
  refine LoopOK.round hTh hMx ?_
  conv => whnf
  refine cond_split (fun h => ?_) (fun h => ?_)
  · have hlt := lt_of_dec h
    conv => whnf
    refine IndexTo.at (map_at cDor hlt) ?_
    conv => whnf
    refine CallTo.pure (hf _ (List.getElem_mem hlt)) ?_
    conv => whnf
    refine ⟨by simp; omega, by simp; omega, ?_⟩
    conv => whnf
    refine WrapTo.i64 (by omega) ?_
    conv => whnf
    refine LoopOK.weak _ _ ?_ ?_ ?_ (IH (i + 1) (by omega) (by omega))
    · exact ⟨rfl, rfl, rfl, rfl, rfl, rfl, trivial⟩
    · exact ⟨congrArg (fun z => some (ABox.row T_api_DoorOf 6 z)) (map_succ (f := fun x => cDorO (g x)) hlt), trivial⟩
    · exact clo_all hfv (Clo.map (fun x => fDorO (g x)) _)
  · have hge := le_of_dec h
    conv => whnf
    rw [show xs.map (cDorO ∘ g) = (xs.take i).map (fun x => cDorO (g x)) from (map_all (f := fun x => cDorO (g x)) hge).symm]
    exact Fin.own hTh rfl rfl rfl (by simp; omega) (Clo.map (fun x => fDorO (g x)) _)
theorem m_world_all_api_Route_string (G : GlP) (xs : List Rte) (fv : AV) (g : Rte → Str) (hf : ∀ x, x ∈ xs → MeetsV Pg G fv [(.agg (cRte x))] [] (.str (g x)) []) (hfv : cloB (fun _ => false) fv = true) (hl : xs.length ≤ 4294967296) :
    Meets Pg G F_world_all_api_Route_string [.lst 4 (xs.map cRte), fv] [] (.lst 1 ((xs.map g).map cS)) [] := by
  rw [List.map_map]
  refine meets_pure (F := fe_world_all_api_Route_string) hTh hMx func_world_all_api_Route_string rfl call_world_all_api_Route_string rfl (clo_args hfv) rfl ?_
  conv => whnf
  refine LoopOK.conv (Conv.empOwn 4 rfl (F_world_all_api_Route_string, 18) rfl T_string 1) (LoopOK.weak _ _ ?_ ?_ ?_ (LoopOK.ind (fun i : Nat => xs.length - i)
    (fun i => [(0, .lst 4 (xs.map cRte)), (1, fv), (7, .lst 4 (xs.map cRte)), (8, .int .i64 (xs.map cRte).length), (9, .int .i64 i), (4, .own (F_world_all_api_Route_string, 18) i)]) (fun i => [((F_world_all_api_Route_string, 18), .row T_string 1 ((xs.take i).map fun x => cS (g x)))]) (fun i => i ≤ xs.length) ?_ 0 (by omega)))
  · exact ⟨rfl, rfl, rfl, rfl, rfl, rfl, trivial⟩
  · exact ⟨rfl, trivial⟩
  · exact clo_all hfv (Clo.map (fun x => fS (g x)) _)
  intro i hi IH
  refine LoopOK.round hTh hMx ?_
  conv => whnf
  refine cond_split (fun h => ?_) (fun h => ?_)
  · have hlt := lt_of_dec h
    conv => whnf
    refine IndexTo.at (map_at cRte hlt) ?_
    conv => whnf
    refine CallTo.pure (hf _ (List.getElem_mem hlt)) ?_
    conv => whnf
    refine ⟨by simp; omega, by simp; omega, ?_⟩
    conv => whnf
    refine WrapTo.i64 (by omega) ?_
    conv => whnf
    refine LoopOK.weak _ _ ?_ ?_ ?_ (IH (i + 1) (by omega) (by omega))
    · exact ⟨rfl, rfl, rfl, rfl, rfl, rfl, trivial⟩
    · exact ⟨congrArg (fun z => some (ABox.row T_string 1 z)) (map_succ (f := fun x => cS (g x)) hlt), trivial⟩
    · exact clo_all hfv (Clo.map (fun x => fS (g x)) _)
  · have hge := le_of_dec h
    conv => whnf
    rw [show xs.map (cS ∘ g) = (xs.take i).map (fun x => cS (g x)) from (map_all (f := fun x => cS (g x)) hge).symm]
    exact Fin.own hTh rfl rfl rfl (by simp; omega) (Clo.map (fun x => fS (g x)) _)
theorem m_world_all_api_Route_api_RouteOf (G : GlP) (xs : List Rte) (fv : AV) (g : Rte → RteO) (hf : ∀ x, x ∈ xs → MeetsV Pg G fv [(.agg (cRte x))] [] (.agg (cRteO (g x))) []) (hfv : cloB (fun _ => false) fv = true) (hl : xs.length ≤ 4294967296) :
    Meets Pg G F_world_all_api_Route_api_RouteOf [.lst 4 (xs.map cRte), fv] [] (.lst 3 ((xs.map g).map cRteO)) [] := by
  rw [List.map_map]
  refine meets_pure (F := fe_world_all_api_Route_api_RouteOf) hTh hMx func_world_all_api_Route_api_RouteOf rfl call_world_all_api_Route_api_RouteOf rfl (clo_args hfv) rfl ?_
  conv => whnf
  refine LoopOK.conv (Conv.empOwn 4 rfl (F_world_all_api_Route_api_RouteOf, 18) rfl T_api_RouteOf 3) (LoopOK.weak _ _ ?_ ?_ ?_ (LoopOK.ind (fun i : Nat => xs.length - i)
    (fun i => [(0, .lst 4 (xs.map cRte)), (1, fv), (7, .lst 4 (xs.map cRte)), (8, .int .i64 (xs.map cRte).length), (9, .int .i64 i), (4, .own (F_world_all_api_Route_api_RouteOf, 18) i)]) (fun i => [((F_world_all_api_Route_api_RouteOf, 18), .row T_api_RouteOf 3 ((xs.take i).map fun x => cRteO (g x)))]) (fun i => i ≤ xs.length) ?_ 0 (by omega)))
  · exact ⟨rfl, rfl, rfl, rfl, rfl, rfl, trivial⟩
  · exact ⟨rfl, trivial⟩
  · exact clo_all hfv (Clo.map (fun x => fRteO (g x)) _)
  intro i hi IH
  refine LoopOK.round hTh hMx ?_
  conv => whnf
  refine cond_split (fun h => ?_) (fun h => ?_)
  · have hlt := lt_of_dec h
    conv => whnf
    refine IndexTo.at (map_at cRte hlt) ?_
    conv => whnf
    refine CallTo.pure (hf _ (List.getElem_mem hlt)) ?_
    conv => whnf
    refine ⟨by simp; omega, by simp; omega, ?_⟩
    conv => whnf
    refine WrapTo.i64 (by omega) ?_
    conv => whnf
    refine LoopOK.weak _ _ ?_ ?_ ?_ (IH (i + 1) (by omega) (by omega))
    · exact ⟨rfl, rfl, rfl, rfl, rfl, rfl, trivial⟩
    · exact ⟨congrArg (fun z => some (ABox.row T_api_RouteOf 3 z)) (map_succ (f := fun x => cRteO (g x)) hlt), trivial⟩
    · exact clo_all hfv (Clo.map (fun x => fRteO (g x)) _)
  · have hge := le_of_dec h
    conv => whnf
    rw [show xs.map (cRteO ∘ g) = (xs.take i).map (fun x => cRteO (g x)) from (map_all (f := fun x => cRteO (g x)) hge).symm]
    exact Fin.own hTh rfl rfl rfl (by simp; omega) (Clo.map (fun x => fRteO (g x)) _)
theorem m_world_all_api_Trip_string (G : GlP) (xs : List Trp) (fv : AV) (g : Trp → Str) (hf : ∀ x, x ∈ xs → MeetsV Pg G fv [(.agg (cTrp x))] [] (.str (g x)) []) (hfv : cloB (fun _ => false) fv = true) (hl : xs.length ≤ 4294967296) :
    Meets Pg G F_world_all_api_Trip_string [.lst 5 (xs.map cTrp), fv] [] (.lst 1 ((xs.map g).map cS)) [] := by
  rw [List.map_map]
  refine meets_pure (F := fe_world_all_api_Trip_string) hTh hMx func_world_all_api_Trip_string rfl call_world_all_api_Trip_string rfl (clo_args hfv) rfl ?_
  conv => whnf
  refine LoopOK.conv (Conv.empOwn 4 rfl (F_world_all_api_Trip_string, 18) rfl T_string 1) (LoopOK.weak _ _ ?_ ?_ ?_ (LoopOK.ind (fun i : Nat => xs.length - i)
    (fun i => [(0, .lst 5 (xs.map cTrp)), (1, fv), (7, .lst 5 (xs.map cTrp)), (8, .int .i64 (xs.map cTrp).length), (9, .int .i64 i), (4, .own (F_world_all_api_Trip_string, 18) i)]) (fun i => [((F_world_all_api_Trip_string, 18), .row T_string 1 ((xs.take i).map fun x => cS (g x)))]) (fun i => i ≤ xs.length) ?_ 0 (by omega)))
  · exact ⟨rfl, rfl, rfl, rfl, rfl, rfl, trivial⟩
  · exact ⟨rfl, trivial⟩
  · exact clo_all hfv (Clo.map (fun x => fS (g x)) _)
  intro i hi IH
  refine LoopOK.round hTh hMx ?_
  conv => whnf
  refine cond_split (fun h => ?_) (fun h => ?_)
  · have hlt := lt_of_dec h
    conv => whnf
    refine IndexTo.at (map_at cTrp hlt) ?_
    conv => whnf
    refine CallTo.pure (hf _ (List.getElem_mem hlt)) ?_
    conv => whnf
    refine ⟨by simp; omega, by simp; omega, ?_⟩
    conv => whnf
    refine WrapTo.i64 (by omega) ?_
    conv => whnf
    refine LoopOK.weak _ _ ?_ ?_ ?_ (IH (i + 1) (by omega) (by omega))
    · exact ⟨rfl, rfl, rfl, rfl, rfl, rfl, trivial⟩
    · exact ⟨congrArg (fun z => some (ABox.row T_string 1 z)) (map_succ (f := fun x => cS (g x)) hlt), trivial⟩
    · exact clo_all hfv (Clo.map (fun x => fS (g x)) _)
  · have hge := le_of_dec h
    conv => whnf
    rw [show xs.map (cS ∘ g) = (xs.take i).map (fun x => cS (g x)) from (map_all (f := fun x => cS (g x)) hge).symm]
    exact Fin.own hTh rfl rfl rfl (by simp; omega) (Clo.map (fun x => fS (g x)) _)
theorem m_world_all_api_Trip_api_TripOf (G : GlP) (xs : List Trp) (fv : AV) (g : Trp → TrpO) (hf : ∀ x, x ∈ xs → MeetsV Pg G fv [(.agg (cTrp x))] [] (.agg (cTrpO (g x))) []) (hfv : cloB (fun _ => false) fv = true) (hl : xs.length ≤ 4294967296) :
    Meets Pg G F_world_all_api_Trip_api_TripOf [.lst 5 (xs.map cTrp), fv] [] (.lst 4 ((xs.map g).map cTrpO)) [] := by
  rw [List.map_map]
  refine meets_pure (F := fe_world_all_api_Trip_api_TripOf) hTh hMx func_world_all_api_Trip_api_TripOf rfl call_world_all_api_Trip_api_TripOf rfl (clo_args hfv) rfl ?_
  conv => whnf
  refine LoopOK.conv (Conv.empOwn 4 rfl (F_world_all_api_Trip_api_TripOf, 18) rfl T_api_TripOf 4) (LoopOK.weak _ _ ?_ ?_ ?_ (LoopOK.ind (fun i : Nat => xs.length - i)
    (fun i => [(0, .lst 5 (xs.map cTrp)), (1, fv), (7, .lst 5 (xs.map cTrp)), (8, .int .i64 (xs.map cTrp).length), (9, .int .i64 i), (4, .own (F_world_all_api_Trip_api_TripOf, 18) i)]) (fun i => [((F_world_all_api_Trip_api_TripOf, 18), .row T_api_TripOf 4 ((xs.take i).map fun x => cTrpO (g x)))]) (fun i => i ≤ xs.length) ?_ 0 (by omega)))
  · exact ⟨rfl, rfl, rfl, rfl, rfl, rfl, trivial⟩
  · exact ⟨rfl, trivial⟩
  · exact clo_all hfv (Clo.map (fun x => fTrpO (g x)) _)
  intro i hi IH
  refine LoopOK.round hTh hMx ?_
  conv => whnf
  refine cond_split (fun h => ?_) (fun h => ?_)
  · have hlt := lt_of_dec h
    conv => whnf
    refine IndexTo.at (map_at cTrp hlt) ?_
    conv => whnf
    refine CallTo.pure (hf _ (List.getElem_mem hlt)) ?_
    conv => whnf
    refine ⟨by simp; omega, by simp; omega, ?_⟩
    conv => whnf
    refine WrapTo.i64 (by omega) ?_
    conv => whnf
    refine LoopOK.weak _ _ ?_ ?_ ?_ (IH (i + 1) (by omega) (by omega))
    · exact ⟨rfl, rfl, rfl, rfl, rfl, rfl, trivial⟩
    · exact ⟨congrArg (fun z => some (ABox.row T_api_TripOf 4 z)) (map_succ (f := fun x => cTrpO (g x)) hlt), trivial⟩
    · exact clo_all hfv (Clo.map (fun x => fTrpO (g x)) _)
  · have hge := le_of_dec h
    conv => whnf
    rw [show xs.map (cTrpO ∘ g) = (xs.take i).map (fun x => cTrpO (g x)) from (map_all (f := fun x => cTrpO (g x)) hge).symm]
    exact Fin.own hTh rfl rfl rfl (by simp; omega) (Clo.map (fun x => fTrpO (g x)) _)
theorem m_world_all_api_Hazard_string (G : GlP) (xs : List Hzd) (fv : AV) (g : Hzd → Str) (hf : ∀ x, x ∈ xs → MeetsV Pg G fv [(.agg (cHzd x))] [] (.str (g x)) []) (hfv : cloB (fun _ => false) fv = true) (hl : xs.length ≤ 4294967296) :
    Meets Pg G F_world_all_api_Hazard_string [.lst 5 (xs.map cHzd), fv] [] (.lst 1 ((xs.map g).map cS)) [] := by
  rw [List.map_map]
  refine meets_pure (F := fe_world_all_api_Hazard_string) hTh hMx func_world_all_api_Hazard_string rfl call_world_all_api_Hazard_string rfl (clo_args hfv) rfl ?_
  conv => whnf
  refine LoopOK.conv (Conv.empOwn 4 rfl (F_world_all_api_Hazard_string, 18) rfl T_string 1) (LoopOK.weak _ _ ?_ ?_ ?_ (LoopOK.ind (fun i : Nat => xs.length - i)
    (fun i => [(0, .lst 5 (xs.map cHzd)), (1, fv), (7, .lst 5 (xs.map cHzd)), (8, .int .i64 (xs.map cHzd).length), (9, .int .i64 i), (4, .own (F_world_all_api_Hazard_string, 18) i)]) (fun i => [((F_world_all_api_Hazard_string, 18), .row T_string 1 ((xs.take i).map fun x => cS (g x)))]) (fun i => i ≤ xs.length) ?_ 0 (by omega)))
  · exact ⟨rfl, rfl, rfl, rfl, rfl, rfl, trivial⟩
  · exact ⟨rfl, trivial⟩
  · exact clo_all hfv (Clo.map (fun x => fS (g x)) _)
  intro i hi IH
  refine LoopOK.round hTh hMx ?_
  conv => whnf
  refine cond_split (fun h => ?_) (fun h => ?_)
  · have hlt := lt_of_dec h
    conv => whnf
    refine IndexTo.at (map_at cHzd hlt) ?_
    conv => whnf
    refine CallTo.pure (hf _ (List.getElem_mem hlt)) ?_
    conv => whnf
    refine ⟨by simp; omega, by simp; omega, ?_⟩
    conv => whnf
    refine WrapTo.i64 (by omega) ?_
    conv => whnf
    refine LoopOK.weak _ _ ?_ ?_ ?_ (IH (i + 1) (by omega) (by omega))
    · exact ⟨rfl, rfl, rfl, rfl, rfl, rfl, trivial⟩
    · exact ⟨congrArg (fun z => some (ABox.row T_string 1 z)) (map_succ (f := fun x => cS (g x)) hlt), trivial⟩
    · exact clo_all hfv (Clo.map (fun x => fS (g x)) _)
  · have hge := le_of_dec h
    conv => whnf
    rw [show xs.map (cS ∘ g) = (xs.take i).map (fun x => cS (g x)) from (map_all (f := fun x => cS (g x)) hge).symm]
    exact Fin.own hTh rfl rfl rfl (by simp; omega) (Clo.map (fun x => fS (g x)) _)
theorem m_world_all_api_Hazard_api_HazardOf (G : GlP) (xs : List Hzd) (fv : AV) (g : Hzd → HzdO) (hf : ∀ x, x ∈ xs → MeetsV Pg G fv [(.agg (cHzd x))] [] (.agg (cHzdO (g x))) []) (hfv : cloB (fun _ => false) fv = true) (hl : xs.length ≤ 4294967296) :
    Meets Pg G F_world_all_api_Hazard_api_HazardOf [.lst 5 (xs.map cHzd), fv] [] (.lst 5 ((xs.map g).map cHzdO)) [] := by
  rw [List.map_map]
  refine meets_pure (F := fe_world_all_api_Hazard_api_HazardOf) hTh hMx func_world_all_api_Hazard_api_HazardOf rfl call_world_all_api_Hazard_api_HazardOf rfl (clo_args hfv) rfl ?_
  conv => whnf
  refine LoopOK.conv (Conv.empOwn 4 rfl (F_world_all_api_Hazard_api_HazardOf, 18) rfl T_api_HazardOf 5) (LoopOK.weak _ _ ?_ ?_ ?_ (LoopOK.ind (fun i : Nat => xs.length - i)
    (fun i => [(0, .lst 5 (xs.map cHzd)), (1, fv), (7, .lst 5 (xs.map cHzd)), (8, .int .i64 (xs.map cHzd).length), (9, .int .i64 i), (4, .own (F_world_all_api_Hazard_api_HazardOf, 18) i)]) (fun i => [((F_world_all_api_Hazard_api_HazardOf, 18), .row T_api_HazardOf 5 ((xs.take i).map fun x => cHzdO (g x)))]) (fun i => i ≤ xs.length) ?_ 0 (by omega)))
  · exact ⟨rfl, rfl, rfl, rfl, rfl, rfl, trivial⟩
  · exact ⟨rfl, trivial⟩
  · exact clo_all hfv (Clo.map (fun x => fHzdO (g x)) _)
  intro i hi IH
  refine LoopOK.round hTh hMx ?_
  conv => whnf
  refine cond_split (fun h => ?_) (fun h => ?_)
  · have hlt := lt_of_dec h
    conv => whnf
    refine IndexTo.at (map_at cHzd hlt) ?_
    conv => whnf
    refine CallTo.pure (hf _ (List.getElem_mem hlt)) ?_
    conv => whnf
    refine ⟨by simp; omega, by simp; omega, ?_⟩
    conv => whnf
    refine WrapTo.i64 (by omega) ?_
    conv => whnf
    refine LoopOK.weak _ _ ?_ ?_ ?_ (IH (i + 1) (by omega) (by omega))
    · exact ⟨rfl, rfl, rfl, rfl, rfl, rfl, trivial⟩
    · exact ⟨congrArg (fun z => some (ABox.row T_api_HazardOf 5 z)) (map_succ (f := fun x => cHzdO (g x)) hlt), trivial⟩
    · exact clo_all hfv (Clo.map (fun x => fHzdO (g x)) _)
  · have hge := le_of_dec h
    conv => whnf
    rw [show xs.map (cHzdO ∘ g) = (xs.take i).map (fun x => cHzdO (g x)) from (map_all (f := fun x => cHzdO (g x)) hge).symm]
    exact Fin.own hTh rfl rfl rfl (by simp; omega) (Clo.map (fun x => fHzdO (g x)) _)
end Go.Proofs.YtmfolelgdpkkoaaGreatDoor
/- Ticks, words: the contracts of tick.Check, lex.Name and what they call, and of the document's own. -/
set_option linter.unusedVariables false
set_option linter.unusedSimpArgs false
set_option maxRecDepth 10000
namespace Go.Ab
def tickOK (n : Int) : Bool := decide (0 ≤ n) && decide (n ≤ 1099511627776)
def letB (n : Int) : Bool := decide (97 ≤ n) && decide (n ≤ 122)
def digB (n : Int) : Bool := decide (48 ≤ n) && decide (n ≤ 57)
def moreB (n : Int) : Bool := letB n || digB n || (n == 45) || (n == 95)
def cls (n : Int) : Int := if letB n then 1 else if digB n then 2 else if (n == 45) || (n == 95) then 3 else 0
theorem cls_more (n : Int) : (cls n != 0) = moreB n := by
  unfold cls moreB
  cases letB n <;> cases digB n <;> cases h : (n == 45) <;> cases h' : (n == 95) <;> rfl
theorem cls_let (n : Int) : (cls n != 1) = !letB n := by
  unfold cls
  cases letB n <;> cases digB n <;> cases h : (n == 45) <;> cases h' : (n == 95) <;> rfl
def words : List Str := ["horizon", "stop", "path", "door", "route", "trip", "hazard", "from", "every", "open", "closed", "of", "on", "until", "stay"].map fun s => s.toByteArray.data.toList
def ub (c : UInt8) : Int := (c.toNat : Int)
def runLen (q : Int → Bool) (s : Str) : Nat := (s.takeWhile fun c => q (cls (ub c))).length
def wordOK (s : Str) : Bool := match s with
  | [] => false
  | c :: r => decide (r.length < 24) && letB (ub c) && (c :: r).all fun c => moreB (ub c)
def nameOK (s : Str) : Bool := wordOK s && !words.contains s
end Go.Ab
namespace Go.Proofs.YtmfolelgdpkkoaaGreatDoor
open Go Go.Ab
def ResOK (G : GlP) : Prop := Meets Pg G F_lex_Reserved [] [] .dead []
theorem m_within (G : GlP) (a x b : Int) : Meets Pg G F_tick_within_int64 [.int .i64 a, .int .i64 x, .int .i64 b] [] (.bool (decide (a ≤ x) && decide (x ≤ b))) [] := by
  refine meets_pure (F := fe_tick_within_int64) hTh hMx func_tick_within_int64 rfl call_tick_within_int64 rfl rfl rfl ?_
  conv => whnf
  refine cond_split (fun h => ?_) (fun h => ?_)
  · conv => whnf
    have h' : ¬ a ≤ x := by simpa using h
    exact Fin.one hTh rfl (by simp [getT, ofValue, h']) rfl
  · conv => whnf
    have h' : a ≤ x := by simpa using h
    exact Fin.one hTh rfl (by simp [getT, h']) rfl
theorem m_tick_Check (G : GlP) (n : Int) : Meets Pg G F_tick_Check [.int .i64 n] [] (.int .i64 (if tickOK n then 0 else 9)) [] := by
  refine meets_pure (F := fe_tick_Check) hTh hMx func_tick_Check rfl call_tick_Check rfl rfl rfl ?_
  conv => whnf
  refine CallTo.fn (m_within G _ _ _) ?_
  conv => whnf
  refine cond_split (fun h => ?_) (fun h => ?_)
  · conv => whnf
    have h' : tickOK n = false := by simp [tickOK] at h ⊢; omega
    exact Fin.one hTh rfl (by simp [getT, ofValue, h']) rfl
  · conv => whnf
    have h' : tickOK n = true := by simpa [tickOK] using h
    exact Fin.one hTh rfl (by simp [getT, ofValue, h']) rfl
theorem m_ref01_Check (G : GlP) (n : Int) : Meets Pg G F_ref01_Check [.int .i64 n] [] (.int .i64 (if tickOK n then 0 else 9)) [] := by
  refine meets_pure (F := fe_ref01_Check) hTh hMx func_ref01_Check rfl call_ref01_Check rfl rfl rfl ?_
  conv => whnf
  refine cond_split (fun h => ?_) (fun h => ?_)
  · conv => whnf
    have h' : tickOK n = false := by simp [tickOK] at h ⊢; omega
    exact Fin.one hTh rfl (by simp [getT, ofValue, h']) rfl
  · conv => whnf
    refine cond_split (fun h2 => ?_) (fun h2 => ?_)
    · conv => whnf
      have h' : tickOK n = false := by simp [tickOK] at h h2 ⊢; omega
      exact Fin.one hTh rfl (by simp [getT, ofValue, h']) rfl
    · conv => whnf
      have h' : tickOK n = true := by simp [tickOK] at h h2 ⊢; omega
      exact Fin.one hTh rfl (by simp [getT, ofValue, h']) rfl
theorem m_ref04_letter (G : GlP) (n : Int) : Meets Pg G F_ref04_letter [.int .u8 n] [] (.bool (letB n)) [] := by
  refine meets_pure (F := fe_ref04_letter) hTh hMx func_ref04_letter rfl call_ref04_letter rfl rfl rfl ?_
  conv => whnf
  refine cond_split (fun h => ?_) (fun h => ?_)
  · conv => whnf
    exact Fin.one hTh rfl (by simp [getT, letB] at h ⊢; simp [h]) rfl
  · conv => whnf
    exact Fin.one hTh rfl (by simp [getT, letB] at h ⊢; omega) rfl
theorem m_ref04_digit (G : GlP) (n : Int) : Meets Pg G F_ref04_digit [.int .u8 n] [] (.bool (digB n)) [] := by
  refine meets_pure (F := fe_ref04_digit) hTh hMx func_ref04_digit rfl call_ref04_digit rfl rfl rfl ?_
  conv => whnf
  refine cond_split (fun h => ?_) (fun h => ?_)
  · conv => whnf
    exact Fin.one hTh rfl (by simp [getT, digB] at h ⊢; simp [h]) rfl
  · conv => whnf
    exact Fin.one hTh rfl (by simp [getT, digB] at h ⊢; omega) rfl
theorem m_lex_class (G : GlP) (n : Int) : Meets Pg G F_lex_class [.int .u8 n] [] (.int .i64 (cls n)) [] := by
  refine meets_pure (F := fe_lex_class) hTh hMx func_lex_class rfl call_lex_class rfl rfl rfl ?_
  conv => whnf
  iterate 8 (all_goals (try (refine cond_split (fun _ => ?_) (fun _ => ?_) <;> (conv => whnf))))
  all_goals (refine Fin.one hTh rfl ?_ rfl)
  all_goals (simp_all [getT, ofValue, cls, letB, digB] <;> grind)
theorem m_ref04_more (G : GlP) (n : Int) : Meets Pg G F_ref04_more [.int .u8 n] [] (.bool (moreB n)) [] := by
  refine meets_pure (F := fe_ref04_more) hTh hMx func_ref04_more rfl call_ref04_more rfl rfl rfl ?_
  conv => whnf
  refine CallTo.fn (m_ref04_letter G _) ?_
  conv => whnf
  refine cond_split (fun h => ?_) (fun h => ?_)
  · conv => whnf
    iterate 8 (all_goals (try (refine cond_split (fun _ => ?_) (fun _ => ?_) <;> (conv => whnf))))
    all_goals (refine Fin.one hTh rfl ?_ rfl)
    all_goals (simp_all [getT, moreB])
  · conv => whnf
    refine CallTo.fn (m_ref04_digit G _) ?_
    conv => whnf
    iterate 8 (all_goals (try (refine cond_split (fun _ => ?_) (fun _ => ?_) <;> (conv => whnf))))
    all_goals (refine Fin.one hTh rfl ?_ rfl)
    all_goals (simp_all [getT, moreB])
theorem m_lex_Name_1 (G : GlP) (n : Int) : Meets Pg G F_lex_Name_1 [.int .i64 n] [] (.bool (n != 0)) [] := by
  refine meets_pure (F := fe_lex_Name_1) hTh hMx func_lex_Name_1 rfl call_lex_Name_1 rfl rfl rfl ?_
  conv => whnf
  exact Fin.one hTh rfl (rfl) rfl
theorem takeWhile_len {p : UInt8 → Bool} : ∀ {s : Str} {i : Nat}, (∀ c ∈ s.take i, p c = true) → i ≤ s.length → (s.length ≤ i ∨ ∃ h : i < s.length, p s[i] = false) → (s.takeWhile p).length = i
  | [], i, h, hi, he => by simp at hi; subst hi; rfl
  | c :: s, 0, h, hi, he => by
    rcases he with he | ⟨_, he⟩
    · simp at he
    · simp at he; simp [he]
  | c :: s, i + 1, h, hi, he => by
    have hc : p c = true := h c (by simp)
    simp only [List.takeWhile_cons, hc, if_true, List.length_cons]
    rw [takeWhile_len (i := i) (fun d hd => h d (by simp [hd])) (by simpa using hi) (by simpa using he)]
theorem all_succ {α : Type} {p : α → Bool} {xs : List α} {i : Nat} (hb : ∀ x ∈ xs.take i, p x = true) (h : i < xs.length) (he : p xs[i] = true) : ∀ x ∈ xs.take (i + 1), p x = true := by
  intro x hx
  rw [List.take_succ_eq_append_getElem h, List.mem_append, List.mem_singleton] at hx
  rcases hx with hx | rfl
  · exact hb x hx
  · exact he
theorem takeWhile_all {p : UInt8 → Bool} : ∀ (s : Str), (((s.takeWhile p).length : Int) == (s.length : Int)) = s.all p
  | [] => rfl
  | c :: s => by
    have ih := takeWhile_all (p := p) s
    cases h : p c with
    | false => simp [List.takeWhile_cons, h]; omega
    | true =>
      simp only [List.takeWhile_cons, h, if_true, List.length_cons, List.all_cons, Bool.true_and]
      rw [← ih, Bool.eq_iff_iff]
      simp
theorem m_lex_run (G : GlP) (s : Str) (fv : AV) (q : Int → Bool) (hf : ∀ k, MeetsV Pg G fv [.int .i64 k] [] (.bool (q k)) []) (hfv : cloB (fun _ => false) fv = true) (hl : s.length ≤ 9223372036854775807) : Meets Pg G F_lex_run [.str s, fv] [] (.int .i64 (runLen q s)) [] := by
  refine meets_pure (F := fe_lex_run) hTh hMx func_lex_run rfl call_lex_run rfl (by simp [cloL, cloB, cloB_free hfv]) rfl ?_
  conv => whnf
  refine LoopOK.weak _ _ ?_ ?_ ?_ (LoopOK.ind (fun i : Nat => s.length - i) (fun i => [(0, .str s), (1, fv), (5, .int .i64 i)]) (fun _ => []) (fun i => i ≤ s.length ∧ ∀ c ∈ s.take i, q (cls (ub c)) = true) ?_ 0 ⟨by omega, by simp⟩)
  · exact ⟨rfl, rfl, rfl, trivial⟩
  · trivial
  · simp [cloChk, cloB, cloB_free hfv]
  intro i ⟨hi, hb⟩ IH
  refine LoopOK.round hTh hMx ?_
  conv => whnf
  refine cond_split (fun h => ?_) (fun h => ?_)
  · have hlt : i < s.length := by simpa using h
    conv => whnf
    refine ByteTo.at (List.getElem?_eq_getElem hlt) ?_
    conv => whnf
    refine CallTo.fn (m_lex_class G _) ?_
    conv => whnf
    refine CallTo.pure (hf _) ?_
    conv => whnf
    refine cond_split (fun he => ?_) (fun he => ?_)
    · conv => whnf
      refine WrapTo.i64 (by omega) ?_
      conv => whnf
      refine LoopOK.weak _ _ ?_ ?_ ?_ (IH (i + 1) (by omega) ⟨by omega, all_succ hb hlt he⟩)
      · exact ⟨rfl, rfl, rfl, trivial⟩
      · trivial
      · simp [cloChk, cloB, cloB_free hfv]
    · conv => whnf
      exact Fin.one hTh rfl (congrArg (fun n : Nat => AV.int .i64 (n : Int)) (takeWhile_len (p := fun c => q (cls (ub c))) hb hi (.inr ⟨hlt, he⟩)).symm) rfl
  · have hge : s.length ≤ i := by simpa using h
    conv => whnf
    exact Fin.one hTh rfl (congrArg (fun n : Nat => AV.int .i64 (n : Int)) (takeWhile_len (p := fun c => q (cls (ub c))) hb hi (.inl hge)).symm) rfl
theorem m_ref04_Reserved (G : GlP) (s : Str) : Meets Pg G F_ref04_Reserved [.str s] [] (.bool (words.contains s)) [] := by
  have hw : words.length = 15 := rfl
  refine meets_pure (F := fe_ref04_Reserved) hTh hMx func_ref04_Reserved rfl call_ref04_Reserved rfl rfl rfl ?_
  conv => whnf
  refine LoopOK.weak _ _ ?_ ?_ ?_ (LoopOK.ind (fun i : Nat => words.length - i) (fun i => [(0, .str s), (3, .lst 1 (words.map cS)), (4, .int .i64 i)]) (fun _ => []) (fun i => i ≤ words.length ∧ ∀ x ∈ words.take i, (x == s) = false) ?_ 0 ⟨by omega, by simp⟩)
  · exact ⟨rfl, rfl, rfl, trivial⟩
  · trivial
  · rfl
  intro i ⟨hi, hb⟩ IH
  refine LoopOK.round hTh hMx ?_
  conv => whnf
  refine cond_split (fun h => ?_) (fun h => ?_)
  · have hlt := lt_of_dec h
    conv => whnf
    refine IndexTo.at (map_at cS hlt) ?_
    conv => whnf
    refine cond_split (fun he => ?_) (fun he => ?_)
    · conv => whnf
      exact Fin.one hTh rfl (congrArg AV.bool (List.contains_iff_mem.2 (by have := List.getElem_mem hlt; rwa [beq_iff_eq.1 he] at this)).symm) rfl
    · conv => whnf
      refine WrapTo.i64 (by omega) ?_
      conv => whnf
      refine LoopOK.weak _ _ ?_ ?_ ?_ (IH (i + 1) (by omega) ⟨by omega, none_succ hb hlt he⟩)
      · exact ⟨rfl, rfl, rfl, trivial⟩
      · trivial
      · rfl
  · have hge := le_of_dec h
    conv => whnf
    have hn : s ∉ words := fun hm => by have := none_all hb hge s hm; simp at this
    exact Fin.one hTh rfl (congrArg AV.bool (by simpa using hn : words.contains s = false).symm) rfl
theorem m_ref04_word (G : GlP) (s : Str) (hl : s.length ≤ 9223372036854775807) : Meets Pg G F_ref04_word [.str s] [] (.bool (wordOK s)) [] := by
  match s with
  | [] =>
    refine meets_pure (F := fe_ref04_word) hTh hMx func_ref04_word rfl call_ref04_word rfl rfl rfl ?_
    conv => whnf
    exact Fin.one hTh rfl (rfl) rfl
  | c :: r =>
  have e0 : (((c :: r).length : Nat) : Int) = (r.length : Int) + 1 := by simp
  refine meets_pure (F := fe_ref04_word) hTh hMx func_ref04_word rfl call_ref04_word rfl rfl rfl ?_
  conv => whnf
  refine cond_split (fun h1 => ?_) (fun h1 => ?_)
  · conv => whnf
    have : wordOK (c :: r) = false := by simp [wordOK]; simp at h1; intro; omega
    exact Fin.one hTh rfl (by simp [getT, ofValue, this]) rfl
  conv => whnf
  have hr : r.length < 24 := by simp at h1; omega
  refine ByteTo.at (i := 0) (c := c) rfl ?_
  conv => whnf
  refine CallTo.fn (m_ref04_letter G _) ?_
  conv => whnf
  refine cond_split (fun h2 => ?_) (fun h2 => ?_)
  · conv => whnf
    have : wordOK (c :: r) = false := by have h2 : letB (ub c) = false := by simpa [ub] using h2
                                         simp [wordOK, h2]
    exact Fin.one hTh rfl (by simp [getT, ofValue, this]) rfl
  conv => whnf
  have h2 : letB (ub c) = true := by simpa [ub] using h2
  refine LoopOK.weak _ _ ?_ ?_ ?_ (LoopOK.ind (fun i : Nat => (c :: r).length - i) (fun i => [(0, .str (c :: r)), (3, .int .i64 i)]) (fun _ => []) (fun i => i ≤ (c :: r).length ∧ ∀ x ∈ (c :: r).take i, moreB (ub x) = true) ?_ 0 ⟨by omega, by simp⟩)
  · exact ⟨rfl, rfl, trivial⟩
  · trivial
  · rfl
  intro i ⟨hi, hb⟩ IH
  refine LoopOK.round hTh hMx ?_
  conv => whnf
  refine cond_split (fun h => ?_) (fun h => ?_)
  · have hlt : i < (c :: r).length := by simp at h ⊢; omega
    conv => whnf
    refine ByteTo.at (List.getElem?_eq_getElem hlt) ?_
    conv => whnf
    refine CallTo.fn (m_ref04_more G _) ?_
    conv => whnf
    refine cond_split (fun he => ?_) (fun he => ?_)
    · conv => whnf
      have : wordOK (c :: r) = false := by
        have hm : (c :: r)[i] ∈ c :: r := List.getElem_mem hlt
        have hv : moreB (ub (c :: r)[i]) = false := by simpa [ub] using he
        have : (c :: r).all (fun c => moreB (ub c)) = false := by rw [List.all_eq_false]; exact ⟨_, hm, by simp [hv]⟩
        simp only [wordOK, this, Bool.and_false]
      exact Fin.one hTh rfl (by simp [getT, ofValue, this]) rfl
    · conv => whnf
      refine WrapTo.i64 (by omega) ?_
      conv => whnf
      refine LoopOK.weak _ _ ?_ ?_ ?_ (IH (i + 1) (by omega) ⟨by omega, all_succ hb hlt (by simpa [ub] using he)⟩)
      · exact ⟨rfl, rfl, trivial⟩
      · trivial
      · rfl
  · have hge : (c :: r).length ≤ i := by simp at h ⊢; omega
    conv => whnf
    have : wordOK (c :: r) = true := by
      rw [List.take_of_length_le hge] at hb
      have : (c :: r).all (fun c => moreB (ub c)) = true := List.all_eq_true.2 hb
      simp only [wordOK, this, h2, hr, decide_true, Bool.and_self]
    exact Fin.one hTh rfl (by simp [getT, ofValue, this]) rfl
theorem m_ref04_Name (G : GlP) (s : Str) (hl : s.length ≤ 9223372036854775807) : Meets Pg G F_ref04_Name [.str s] [] (.bool (nameOK s)) [] := by
  refine meets_pure (F := fe_ref04_Name) hTh hMx func_ref04_Name rfl call_ref04_Name rfl rfl rfl ?_
  conv => whnf
  refine CallTo.fn (m_ref04_word G s hl) ?_
  conv => whnf
  refine cond_split (fun h => ?_) (fun h => ?_)
  · conv => whnf
    refine CallTo.fn (m_ref04_Reserved G s) ?_
    conv => whnf
    exact Fin.one hTh rfl (by simp only [getT, nameOK, h]; rfl) rfl
  · conv => whnf
    exact Fin.one hTh rfl (by simp only [getT, nameOK, h]; rfl) rfl
/-- What is asked of strings.Fields: the document's words. -/
def Res (G : GlP) : Prop := ∀ s, Meets Pg G F_lex_Reserved [.str s] [] (.bool (words.contains s)) []
theorem m_lex_Name (G : GlP) (hR : Res G) (s : Str) (hl : s.length ≤ 9223372036854775807) : Meets Pg G F_lex_Name [.str s] [] (.bool (nameOK s)) [] := by
  match s with
  | [] =>
    refine meets_pure (F := fe_lex_Name) hTh hMx func_lex_Name rfl call_lex_Name rfl rfl rfl ?_
    conv => whnf
    exact Fin.one hTh rfl (rfl) rfl
  | c :: r =>
  refine meets_pure (F := fe_lex_Name) hTh hMx func_lex_Name rfl call_lex_Name rfl rfl rfl ?_
  conv => whnf
  refine cond_split (fun h1 => ?_) (fun h1 => ?_)
  · conv => whnf
    have : nameOK (c :: r) = false := by simp [nameOK, wordOK]; simp at h1; intro; omega
    exact Fin.one hTh rfl (by simp [getT, ofValue, this]) rfl
  conv => whnf
  have hr : r.length < 24 := by simp at h1; omega
  refine ByteTo.at (i := 0) (c := c) rfl ?_
  conv => whnf
  refine CallTo.fn (m_lex_class G _) ?_
  conv => whnf
  refine cond_split (fun h2 => ?_) (fun h2 => ?_)
  · conv => whnf
    have h2 : letB (ub c) = false := by rw [cls_let] at h2; simpa [ub] using h2
    have : nameOK (c :: r) = false := by simp [nameOK, wordOK, h2]
    exact Fin.one hTh rfl (by simp [getT, ofValue, this]) rfl
  have h2 : letB (ub c) = true := by rw [cls_let] at h2; simpa [ub] using h2
  conv => whnf
  refine CallTo.fn (hR _) ?_
  conv => whnf
  refine cond_split (fun h3 => ?_) (fun h3 => ?_)
  · conv => whnf
    have : nameOK (c :: r) = false := by simp only [nameOK, h3]; simp
    exact Fin.one hTh rfl (by simp [getT, ofValue, this]) rfl
  conv => whnf
  refine CallTo.fn (m_lex_run G (c :: r) _ (fun k => k != 0) (fun k => MeetsV.of (m_lex_Name_1 G k)) rfl hl) ?_
  conv => whnf
  have : nameOK (c :: r) = ((runLen (fun k => k != 0) (c :: r) : Int) == ((c :: r).length : Int)) := by
    simp only [runLen, cls_more, takeWhile_all]
    simp only [nameOK, h3, wordOK, h2, hr, decide_true, Bool.true_and, Bool.not_false, Bool.and_true]
  exact Fin.one hTh rfl (by rw [this]; rfl) rfl
end Go.Proofs.YtmfolelgdpkkoaaGreatDoor
/- Sheets: all names, all numbers of a sheet; whether a sheet may be. -/
set_option linter.unusedVariables false
set_option linter.unusedSimpArgs false
set_option maxRecDepth 10000
namespace Go.Ab
def nmPth (p : Pth) : List Str := [p.name, p.a, p.b]
def nmDor (p : Dor) : List Str := [p.name, p.a, p.b]
def nmRte (p : Rte) : List Str := p.name :: p.stops
def nmTrp (p : Trp) : List Str := [p.name, p.route]
def nmHzd (p : Hzd) : List Str := [p.name, p.on]
def namesL (x : Sht) : List Str := ((((x.stops ++ x.paths.flatMap nmPth) ++ x.doors.flatMap nmDor) ++ x.routes.flatMap nmRte) ++ x.trips.flatMap nmTrp) ++ x.hazards.flatMap nmHzd
def nuDor (p : Dor) : List Int := [p.ln, p.tm.fr, p.tm.ev, p.tm.ln]
def nuPth (p : Pth) : List Int := [p.ln]
def nuRte (p : Rte) : List Int := p.rides ++ p.stays
def nuTrp (p : Trp) : List Int := [p.fr, p.ev, p.un]
def nuHzd (p : Hzd) : List Int := [p.tm.fr, p.tm.ev, p.tm.ln]
def numbersL (x : Sht) : List Int := (((([x.hor] ++ x.paths.flatMap nuPth) ++ x.doors.flatMap nuDor) ++ x.routes.flatMap nuRte) ++ x.trips.flatMap nuTrp) ++ x.hazards.flatMap nuHzd
structure RteFits (r : Rte) : Prop where
  stops : r.stops.length ≤ 65536
  rides : r.rides.length ≤ 65536
  stays : r.stays.length ≤ 65536
structure ShtFits (x : Sht) : Prop where
  stops : x.stops.length ≤ 65536
  paths : x.paths.length ≤ 65536
  doors : x.doors.length ≤ 65536
  routes : x.routes.length ≤ 65536
  trips : x.trips.length ≤ 65536
  hazards : x.hazards.length ≤ 65536
  each : ∀ r ∈ x.routes, RteFits r
  strs : ∀ s ∈ namesL x, s.length ≤ 9223372036854775807
  names : (namesL x).length ≤ 4294967296
  numbers : (numbersL x).length ≤ 4294967296
end Go.Ab
namespace Go.Proofs.YtmfolelgdpkkoaaGreatDoor
open Go Go.Ab
theorem mo_clone_str (G : GlP) (xs : List Str) (hl : xs.length ≤ 4294967296) : Meets Pg G F_slices_Clone_string_string [.lst 1 (xs.map cS)] [] (.own (F_slices_Clone_string_string, 7) xs.length) [((F_slices_Clone_string_string, 7), .row T_string 1 (xs.map cS))] := by
  refine meets_mk (F := fe_slices_Clone_string_string) hTh hMx func_slices_Clone_string_string rfl call_slices_Clone_string_string rfl rfl rfl key_one (all_row (Clo.map fS xs)) ?_
  by_cases hx : xs = []
  · subst hx
    conv => whnf
    refine OpTo.nilS hTh rfl (.inl rfl) rfl rfl trivial ?_
    conv => whnf
    refine ⟨?_, ?_⟩
    · conv => whnf
      refine Fin.conv (Conv.empOwn 2 rfl (F_slices_Clone_string_string, 7) rfl T_string 1) ?_
      exact Fin.give hTh [_] rfl rfl ⟨rfl, trivial⟩ key_one (all_row Clo.nil)
    · conv => whnf
      refine ⟨by simp, ?_⟩
      conv => whnf
      exact Fin.give hTh [_] rfl rfl ⟨rfl, trivial⟩ key_one (all_row Clo.nil)
  · conv => whnf
    refine OpTo.nilL hTh (fun e => hx (by simpa using e)) rfl (.inl rfl) rfl rfl rfl ?_
    conv => whnf
    refine ⟨by simpa using hl, ?_⟩
    conv => whnf
    exact Fin.give hTh [.own (F_slices_Clone_string_string, 7) xs.length] (by simp [resA, getT]; rfl) rfl ⟨rfl, trivial⟩ key_one (all_row (Clo.map fS xs))
theorem m_sheet_names (G : GlP) (x : Sht) (hx : ShtFits x) : Meets Pg G F_sheet_names [.agg (cSht x)] [] (.lst 1 ((namesL x).map cS)) [] := by
  have hl := hx.names
  have b1 := hx.paths
  have b2 := hx.doors
  have b3 := hx.routes
  have b4 := hx.trips
  have b5 := hx.hazards
  have l0 : x.stops.length ≤ (namesL x).length := by simp [namesL]
  have l1 : (x.stops ++ x.paths.flatMap nmPth).length ≤ (namesL x).length := by simp [namesL]
  have l2 : (x.stops ++ x.paths.flatMap nmPth ++ x.doors.flatMap nmDor).length ≤ (namesL x).length := by simp [namesL]
  have l3 : (x.stops ++ x.paths.flatMap nmPth ++ x.doors.flatMap nmDor ++ x.routes.flatMap nmRte).length ≤ (namesL x).length := by simp [namesL]
  have l4 : (x.stops ++ x.paths.flatMap nmPth ++ x.doors.flatMap nmDor ++ x.routes.flatMap nmRte ++ x.trips.flatMap nmTrp).length ≤ (namesL x).length := by simp [namesL]
  refine meets_pure (F := fe_sheet_names) hTh hMx func_sheet_names rfl call_sheet_names rfl rfl rfl ?_
  conv => whnf
  refine CallTo.fnMakes (mo_clone_str G x.stops (by omega)) rfl ?_
  conv => whnf
  refine LoopOK.weak _ _ ?_ ?_ ?_ (LoopOK.ind (fun i : Nat => x.paths.length - i) (fun i => [(1, .ref (F_sheet_names, 1) 0), (3, .own (F_slices_Clone_string_string, 7) (grow (x.stops) nmPth x.paths i).length), (18, .lst 4 (x.paths.map cPth)), (19, .int .i64 (x.paths.map cPth).length), (20, .int .i64 i)]) (fun i => [((F_sheet_names, 1), .cells T_api_Sheet (cSht x)), ((F_slices_Clone_string_string, 7), .row T_string 1 ((grow (x.stops) nmPth x.paths i).map cS))]) (fun i => i ≤ x.paths.length) ?_ 0 (by omega))
  · exact ⟨rfl, own_len (congrArg List.length (grow_zero.symm)), rfl, rfl, rfl, trivial⟩
  · exact ⟨rfl, row_to (grow_zero.symm) rfl, trivial⟩
  · exact chk_mk ⟨rfl, rfl, rfl, rfl, rfl, trivial⟩ ⟨rfl, cloX_row (l := (F_slices_Clone_string_string, 7)) (e := T_string) (sz := 1) (Clo.map fS _), trivial⟩ rfl
  intro i1 hi IH
  refine LoopOK.round hTh hMx ?_
  conv => whnf
  refine cond_split (fun h => ?_) (fun hz1 => ?_)
  · have hlt := lt_of_dec h
    have hgl := grow_len (pre := (x.stops)) (f := nmPth) hlt
    have hgb : (grow (x.stops) nmPth x.paths (i1 + 1)).length ≤ 4294967296 := Nat.le_trans grow_le (by have := l1; omega)
    conv => whnf
    refine IndexTo.at (map_at cPth hlt) ?_
    conv => whnf
    refine ⟨by simp only [List.length_map, List.length_append, List.length_cons, List.length_nil], by simp only [nmPth, List.length_cons, List.length_nil, List.length_map, List.length_append] at hgl ⊢; omega, ?_⟩
    conv => whnf
    refine WrapTo.i64 (by omega) ?_
    conv => whnf
    refine LoopOK.weak _ _ ?_ ?_ ?_ (IH (i1 + 1) (by omega) (by omega))
    · exact ⟨rfl, own_len (by simp only [nmPth, List.length_cons, List.length_nil, List.length_map, List.length_append] at hgl ⊢; omega), rfl, rfl, rfl, trivial⟩
    · exact ⟨rfl, congrArg (fun z => some (ABox.row T_string 1 z)) (grow_succ hlt), trivial⟩
    · exact chk_mk ⟨rfl, rfl, rfl, rfl, rfl, trivial⟩ ⟨rfl, cloX_row (l := (F_slices_Clone_string_string, 7)) (e := T_string) (sz := 1) (Clo.map fS _), trivial⟩ rfl
  have hge1 := le_of_dec hz1
  conv => whnf
  refine LoopOK.weak _ _ ?_ ?_ ?_ (LoopOK.ind (fun i : Nat => x.doors.length - i) (fun i => [(1, .ref (F_sheet_names, 1) 0), (3, .own (F_slices_Clone_string_string, 7) (grow (x.stops ++ x.paths.flatMap nmPth) nmDor x.doors i).length), (35, .lst 7 (x.doors.map cDor)), (36, .int .i64 (x.doors.map cDor).length), (37, .int .i64 i)]) (fun i => [((F_sheet_names, 1), .cells T_api_Sheet (cSht x)), ((F_slices_Clone_string_string, 7), .row T_string 1 ((grow (x.stops ++ x.paths.flatMap nmPth) nmDor x.doors i).map cS))]) (fun i => i ≤ x.doors.length) ?_ 0 (by omega))
  · exact ⟨rfl, own_len (congrArg List.length (grow_go hge1 rfl)), rfl, rfl, rfl, trivial⟩
  · exact ⟨rfl, row_to (grow_go hge1 rfl) rfl, trivial⟩
  · exact chk_mk ⟨rfl, rfl, rfl, rfl, rfl, trivial⟩ ⟨rfl, cloX_row (l := (F_slices_Clone_string_string, 7)) (e := T_string) (sz := 1) (Clo.map fS _), trivial⟩ rfl
  intro i2 hi IH
  refine LoopOK.round hTh hMx ?_
  conv => whnf
  refine cond_split (fun h => ?_) (fun hz2 => ?_)
  · have hlt := lt_of_dec h
    have hgl := grow_len (pre := (x.stops ++ x.paths.flatMap nmPth)) (f := nmDor) hlt
    have hgb : (grow (x.stops ++ x.paths.flatMap nmPth) nmDor x.doors (i2 + 1)).length ≤ 4294967296 := Nat.le_trans grow_le (by have := l2; omega)
    conv => whnf
    refine IndexTo.at (map_at cDor hlt) ?_
    conv => whnf
    refine ⟨by simp only [List.length_map, List.length_append, List.length_cons, List.length_nil], by simp only [nmDor, List.length_cons, List.length_nil, List.length_map, List.length_append] at hgl ⊢; omega, ?_⟩
    conv => whnf
    refine WrapTo.i64 (by omega) ?_
    conv => whnf
    refine LoopOK.weak _ _ ?_ ?_ ?_ (IH (i2 + 1) (by omega) (by omega))
    · exact ⟨rfl, own_len (by simp only [nmDor, List.length_cons, List.length_nil, List.length_map, List.length_append] at hgl ⊢; omega), rfl, rfl, rfl, trivial⟩
    · exact ⟨rfl, congrArg (fun z => some (ABox.row T_string 1 z)) (grow_succ hlt), trivial⟩
    · exact chk_mk ⟨rfl, rfl, rfl, rfl, rfl, trivial⟩ ⟨rfl, cloX_row (l := (F_slices_Clone_string_string, 7)) (e := T_string) (sz := 1) (Clo.map fS _), trivial⟩ rfl
  have hge2 := le_of_dec hz2
  conv => whnf
  refine LoopOK.weak _ _ ?_ ?_ ?_ (LoopOK.ind (fun i : Nat => x.routes.length - i) (fun i => [(1, .ref (F_sheet_names, 1) 0), (3, .own (F_slices_Clone_string_string, 7) (grow (x.stops ++ x.paths.flatMap nmPth ++ x.doors.flatMap nmDor) nmRte x.routes i).length), (52, .lst 4 (x.routes.map cRte)), (53, .int .i64 (x.routes.map cRte).length), (54, .int .i64 i)]) (fun i => [((F_sheet_names, 1), .cells T_api_Sheet (cSht x)), ((F_slices_Clone_string_string, 7), .row T_string 1 ((grow (x.stops ++ x.paths.flatMap nmPth ++ x.doors.flatMap nmDor) nmRte x.routes i).map cS))]) (fun i => i ≤ x.routes.length) ?_ 0 (by omega))
  · exact ⟨rfl, own_len (congrArg List.length (grow_go hge2 rfl)), rfl, rfl, rfl, trivial⟩
  · exact ⟨rfl, row_to (grow_go hge2 rfl) rfl, trivial⟩
  · exact chk_mk ⟨rfl, rfl, rfl, rfl, rfl, trivial⟩ ⟨rfl, cloX_row (l := (F_slices_Clone_string_string, 7)) (e := T_string) (sz := 1) (Clo.map fS _), trivial⟩ rfl
  intro i3 hi IH
  refine LoopOK.round hTh hMx ?_
  conv => whnf
  refine cond_split (fun h => ?_) (fun hz3 => ?_)
  · have hlt := lt_of_dec h
    have hgl := grow_len (pre := (x.stops ++ x.paths.flatMap nmPth ++ x.doors.flatMap nmDor)) (f := nmRte) hlt
    have hgb : (grow (x.stops ++ x.paths.flatMap nmPth ++ x.doors.flatMap nmDor) nmRte x.routes (i3 + 1)).length ≤ 4294967296 := Nat.le_trans grow_le (by have := l3; omega)
    conv => whnf
    refine IndexTo.at (map_at cRte hlt) ?_
    conv => whnf
    refine ⟨by simp only [List.length_map, List.length_append, List.length_cons, List.length_nil], by simp only [nmRte, List.length_cons, List.length_nil, List.length_map, List.length_append] at hgl ⊢; omega, ?_⟩
    conv => whnf
    refine ⟨by simp only [List.length_map, List.length_append, List.length_cons, List.length_nil], by simp only [nmRte, List.length_cons, List.length_nil, List.length_map, List.length_append] at hgl ⊢; omega, ?_⟩
    conv => whnf
    refine ⟨by kernel_rfl, ?_⟩
    conv => whnf
    refine WrapTo.i64 (by omega) ?_
    conv => whnf
    refine LoopOK.weak _ _ ?_ ?_ ?_ (IH (i3 + 1) (by omega) (by omega))
    · exact ⟨rfl, own_len (by simp only [nmRte, List.length_cons, List.length_nil, List.length_map, List.length_append] at hgl ⊢; omega), rfl, rfl, rfl, trivial⟩
    · exact ⟨rfl, congrArg (fun z => some (ABox.row T_string 1 z)) ((by rw [List.append_assoc]; exact grow_succ hlt)), trivial⟩
    · exact chk_mk ⟨rfl, rfl, rfl, rfl, rfl, trivial⟩ ⟨rfl, cloX_row (l := (F_slices_Clone_string_string, 7)) (e := T_string) (sz := 1) (Clo.map fS _), trivial⟩ rfl
  have hge3 := le_of_dec hz3
  conv => whnf
  refine LoopOK.weak _ _ ?_ ?_ ?_ (LoopOK.ind (fun i : Nat => x.trips.length - i) (fun i => [(1, .ref (F_sheet_names, 1) 0), (3, .own (F_slices_Clone_string_string, 7) (grow (x.stops ++ x.paths.flatMap nmPth ++ x.doors.flatMap nmDor ++ x.routes.flatMap nmRte) nmTrp x.trips i).length), (68, .lst 5 (x.trips.map cTrp)), (69, .int .i64 (x.trips.map cTrp).length), (70, .int .i64 i)]) (fun i => [((F_sheet_names, 1), .cells T_api_Sheet (cSht x)), ((F_slices_Clone_string_string, 7), .row T_string 1 ((grow (x.stops ++ x.paths.flatMap nmPth ++ x.doors.flatMap nmDor ++ x.routes.flatMap nmRte) nmTrp x.trips i).map cS))]) (fun i => i ≤ x.trips.length) ?_ 0 (by omega))
  · exact ⟨rfl, own_len (congrArg List.length (grow_go hge3 rfl)), rfl, rfl, rfl, trivial⟩
  · exact ⟨rfl, row_to (grow_go hge3 rfl) rfl, trivial⟩
  · exact chk_mk ⟨rfl, rfl, rfl, rfl, rfl, trivial⟩ ⟨rfl, cloX_row (l := (F_slices_Clone_string_string, 7)) (e := T_string) (sz := 1) (Clo.map fS _), trivial⟩ rfl
  intro i4 hi IH
  refine LoopOK.round hTh hMx ?_
  conv => whnf
  refine cond_split (fun h => ?_) (fun hz4 => ?_)
  · have hlt := lt_of_dec h
    have hgl := grow_len (pre := (x.stops ++ x.paths.flatMap nmPth ++ x.doors.flatMap nmDor ++ x.routes.flatMap nmRte)) (f := nmTrp) hlt
    have hgb : (grow (x.stops ++ x.paths.flatMap nmPth ++ x.doors.flatMap nmDor ++ x.routes.flatMap nmRte) nmTrp x.trips (i4 + 1)).length ≤ 4294967296 := Nat.le_trans grow_le (by have := l4; omega)
    conv => whnf
    refine IndexTo.at (map_at cTrp hlt) ?_
    conv => whnf
    refine ⟨by simp only [List.length_map, List.length_append, List.length_cons, List.length_nil], by simp only [nmTrp, List.length_cons, List.length_nil, List.length_map, List.length_append] at hgl ⊢; omega, ?_⟩
    conv => whnf
    refine WrapTo.i64 (by omega) ?_
    conv => whnf
    refine LoopOK.weak _ _ ?_ ?_ ?_ (IH (i4 + 1) (by omega) (by omega))
    · exact ⟨rfl, own_len (by simp only [nmTrp, List.length_cons, List.length_nil, List.length_map, List.length_append] at hgl ⊢; omega), rfl, rfl, rfl, trivial⟩
    · exact ⟨rfl, congrArg (fun z => some (ABox.row T_string 1 z)) (grow_succ hlt), trivial⟩
    · exact chk_mk ⟨rfl, rfl, rfl, rfl, rfl, trivial⟩ ⟨rfl, cloX_row (l := (F_slices_Clone_string_string, 7)) (e := T_string) (sz := 1) (Clo.map fS _), trivial⟩ rfl
  have hge4 := le_of_dec hz4
  conv => whnf
  refine LoopOK.weak _ _ ?_ ?_ ?_ (LoopOK.ind (fun i : Nat => x.hazards.length - i) (fun i => [(1, .ref (F_sheet_names, 1) 0), (3, .own (F_slices_Clone_string_string, 7) (grow (x.stops ++ x.paths.flatMap nmPth ++ x.doors.flatMap nmDor ++ x.routes.flatMap nmRte ++ x.trips.flatMap nmTrp) nmHzd x.hazards i).length), (83, .lst 5 (x.hazards.map cHzd)), (84, .int .i64 (x.hazards.map cHzd).length), (85, .int .i64 i)]) (fun i => [((F_sheet_names, 1), .cells T_api_Sheet (cSht x)), ((F_slices_Clone_string_string, 7), .row T_string 1 ((grow (x.stops ++ x.paths.flatMap nmPth ++ x.doors.flatMap nmDor ++ x.routes.flatMap nmRte ++ x.trips.flatMap nmTrp) nmHzd x.hazards i).map cS))]) (fun i => i ≤ x.hazards.length) ?_ 0 (by omega))
  · exact ⟨rfl, own_len (congrArg List.length (grow_go hge4 rfl)), rfl, rfl, rfl, trivial⟩
  · exact ⟨rfl, row_to (grow_go hge4 rfl) rfl, trivial⟩
  · exact chk_mk ⟨rfl, rfl, rfl, rfl, rfl, trivial⟩ ⟨rfl, cloX_row (l := (F_slices_Clone_string_string, 7)) (e := T_string) (sz := 1) (Clo.map fS _), trivial⟩ rfl
  intro i5 hi IH
  refine LoopOK.round hTh hMx ?_
  conv => whnf
  refine cond_split (fun h => ?_) (fun hz5 => ?_)
  · have hlt := lt_of_dec h
    have hgl := grow_len (pre := (x.stops ++ x.paths.flatMap nmPth ++ x.doors.flatMap nmDor ++ x.routes.flatMap nmRte ++ x.trips.flatMap nmTrp)) (f := nmHzd) hlt
    have hgb : (grow (x.stops ++ x.paths.flatMap nmPth ++ x.doors.flatMap nmDor ++ x.routes.flatMap nmRte ++ x.trips.flatMap nmTrp) nmHzd x.hazards (i5 + 1)).length ≤ 4294967296 := Nat.le_trans grow_le (by have := l4; simp only [namesL] at hl; omega)
    conv => whnf
    refine IndexTo.at (map_at cHzd hlt) ?_
    conv => whnf
    refine ⟨by simp only [List.length_map, List.length_append, List.length_cons, List.length_nil], by simp only [nmHzd, List.length_cons, List.length_nil, List.length_map, List.length_append] at hgl ⊢; omega, ?_⟩
    conv => whnf
    refine WrapTo.i64 (by omega) ?_
    conv => whnf
    refine LoopOK.weak _ _ ?_ ?_ ?_ (IH (i5 + 1) (by omega) (by omega))
    · exact ⟨rfl, own_len (by simp only [nmHzd, List.length_cons, List.length_nil, List.length_map, List.length_append] at hgl ⊢; omega), rfl, rfl, rfl, trivial⟩
    · exact ⟨rfl, congrArg (fun z => some (ABox.row T_string 1 z)) (grow_succ hlt), trivial⟩
    · exact chk_mk ⟨rfl, rfl, rfl, rfl, rfl, trivial⟩ ⟨rfl, cloX_row (l := (F_slices_Clone_string_string, 7)) (e := T_string) (sz := 1) (Clo.map fS _), trivial⟩ rfl
  have hge5 := le_of_dec hz5
  conv => whnf
  have hfin : grow (x.stops ++ x.paths.flatMap nmPth ++ x.doors.flatMap nmDor ++ x.routes.flatMap nmRte ++ x.trips.flatMap nmTrp) nmHzd x.hazards i5 = namesL x := grow_all hge5
  rw [← hfin]
  exact Fin.own hTh rfl rfl rfl (by simp only [List.length_map]) (Clo.map fS _)
theorem m_numbers_1 (G : GlP) (t : Tms) (xs : List (List AV)) (hl : xs.length + 3 ≤ 4294967296) (hc : Clo xs) :
    Meets Pg G F_sheet_numbers_1 [.agg (cTms t), .ref (F_sheet_numbers, 3) 0] [((F_sheet_numbers, 3), .cells T_S_i64 [.own (F_sheet_numbers, 17) xs.length]), ((F_sheet_numbers, 17), .row T_i64 1 xs)] (.tup []) [((F_sheet_numbers, 3), .cells T_S_i64 [.own (F_sheet_numbers, 17) (xs.length + 3)]), ((F_sheet_numbers, 17), .row T_i64 1 (xs ++ [cI t.fr, cI t.ev, cI t.ln]))] := by
  have hc2 : Clo (xs ++ [cI t.fr, cI t.ev, cI t.ln]) := hc.append rfl
  refine meets_box (F := fe_sheet_numbers_1) hTh hMx func_sheet_numbers_1 rfl call_sheet_numbers_1 rfl rfl ⟨rfl, cloX_row (l := (0, 0)) (e := 0) (sz := 0) hc, trivial⟩ rfl ⟨rfl, cloX_row (l := (0, 0)) (e := 0) (sz := 0) hc2, trivial⟩ ⟨rfl, cloX_row (l := (0, 0)) (e := 0) (sz := 0) hc, trivial⟩ ?_
  conv => whnf
  refine ⟨rfl, hl, ?_⟩
  conv => whnf
  exact Fin.back hTh [] rfl rfl rfl ⟨rfl, rfl, trivial⟩ rfl ⟨rfl, cloX_row (l := (0, 0)) (e := 0) (sz := 0) hc2, trivial⟩
theorem m_sheet_numbers (G : GlP) (x : Sht) (hx : ShtFits x) : Meets Pg G F_sheet_numbers [.agg (cSht x)] [] (.lst 1 ((numbersL x).map cI)) [] := by
  have hl := hx.numbers
  have b1 := hx.paths
  have b2 := hx.doors
  have b3 := hx.routes
  have b4 := hx.trips
  have b5 := hx.hazards
  have l1 : ([x.hor] ++ x.paths.flatMap nuPth).length ≤ (numbersL x).length := by simp only [numbersL, List.length_append]; omega
  have l2 : ([x.hor] ++ x.paths.flatMap nuPth ++ x.doors.flatMap nuDor).length ≤ (numbersL x).length := by simp only [numbersL, List.length_append]; omega
  have l3 : ([x.hor] ++ x.paths.flatMap nuPth ++ x.doors.flatMap nuDor ++ x.routes.flatMap nuRte).length ≤ (numbersL x).length := by simp only [numbersL, List.length_append]; omega
  have l4 : ([x.hor] ++ x.paths.flatMap nuPth ++ x.doors.flatMap nuDor ++ x.routes.flatMap nuRte ++ x.trips.flatMap nuTrp).length ≤ (numbersL x).length := by simp only [numbersL, List.length_append]; omega
  refine meets_pure (F := { fe_sheet_numbers with rows := [17] }) hTh hMx func_sheet_numbers rfl call_sheet_numbers rfl rfl rfl ?_
  conv => whnf
  refine OpTo.mkRow hTh (F_sheet_numbers, 17) rfl rfl rfl rfl rfl (by decide) (by decide) (by decide) (by decide) rfl rfl ?_
  conv => whnf
  refine LoopOK.weak _ _ ?_ ?_ ?_ (LoopOK.ind (fun i : Nat => x.paths.length - i) (fun i => [(1, .ref (F_sheet_numbers, 1) 0), (3, .ref (F_sheet_numbers, 3) 0), (4, .fn (.func F_sheet_numbers_1) [] [.ref (F_sheet_numbers, 3) 0]), (20, .lst 4 (x.paths.map cPth)), (21, .int .i64 (x.paths.map cPth).length), (22, .int .i64 i)]) (fun i => [((F_sheet_numbers, 1), .cells T_api_Sheet (cSht x)), ((F_sheet_numbers, 3), .cells T_S_i64 [.own (F_sheet_numbers, 17) (grow ([x.hor]) nuPth x.paths i).length]), ((F_sheet_numbers, 17), .row T_i64 1 ((grow ([x.hor]) nuPth x.paths i).map cI))]) (fun i => i ≤ x.paths.length) ?_ 0 (by omega))
  · exact ⟨rfl, rfl, rfl, rfl, rfl, rfl, trivial⟩
  · exact ⟨rfl, box_to (congrArg List.length (grow_zero.symm)) rfl, row_to (grow_zero.symm) rfl, trivial⟩
  · exact chk_mk ⟨rfl, rfl, rfl, rfl, rfl, rfl, trivial⟩ ⟨rfl, rfl, cloX_row (l := (F_sheet_numbers, 17)) (e := T_i64) (sz := 1) (Clo.map fI _), trivial⟩ rfl
  intro i1 hi IH
  refine LoopOK.round hTh hMx ?_
  conv => whnf
  refine cond_split (fun h => ?_) (fun hz1 => ?_)
  · have hlt := lt_of_dec h
    have hgl := grow_len (pre := ([x.hor])) (f := nuPth) hlt
    have hgb : (grow ([x.hor]) nuPth x.paths (i1 + 1)).length ≤ 4294967296 := Nat.le_trans grow_le (by have := l1; omega)
    conv => whnf
    refine IndexTo.at (map_at cPth hlt) ?_
    conv => whnf
    refine ⟨by simp only [List.length_map, List.length_append, List.length_cons, List.length_nil], by simp only [nuPth, List.length_cons, List.length_nil, List.length_map, List.length_append] at hgl ⊢; omega, ?_⟩
    conv => whnf
    refine WrapTo.i64 (by omega) ?_
    conv => whnf
    refine LoopOK.weak _ _ ?_ ?_ ?_ (IH (i1 + 1) (by omega) (by omega))
    · exact ⟨rfl, rfl, rfl, rfl, rfl, rfl, trivial⟩
    · exact ⟨rfl, box_to (by simp only [nuPth, List.length_cons, List.length_nil, List.length_map, List.length_append] at hgl ⊢; omega) rfl, congrArg (fun z => some (ABox.row T_i64 1 z)) (grow_succ hlt), trivial⟩
    · exact chk_mk ⟨rfl, rfl, rfl, rfl, rfl, rfl, trivial⟩ ⟨rfl, rfl, cloX_row (l := (F_sheet_numbers, 17)) (e := T_i64) (sz := 1) (Clo.map fI _), trivial⟩ rfl
  have hge1 := le_of_dec hz1
  conv => whnf
  refine LoopOK.weak _ _ ?_ ?_ ?_ (LoopOK.ind (fun i : Nat => x.doors.length - i) (fun i => [(1, .ref (F_sheet_numbers, 1) 0), (3, .ref (F_sheet_numbers, 3) 0), (4, .fn (.func F_sheet_numbers_1) [] [.ref (F_sheet_numbers, 3) 0]), (33, .lst 7 (x.doors.map cDor)), (34, .int .i64 (x.doors.map cDor).length), (35, .int .i64 i)]) (fun i => [((F_sheet_numbers, 1), .cells T_api_Sheet (cSht x)), ((F_sheet_numbers, 3), .cells T_S_i64 [.own (F_sheet_numbers, 17) (grow ([x.hor] ++ x.paths.flatMap nuPth) nuDor x.doors i).length]), ((F_sheet_numbers, 17), .row T_i64 1 ((grow ([x.hor] ++ x.paths.flatMap nuPth) nuDor x.doors i).map cI))]) (fun i => i ≤ x.doors.length) ?_ 0 (by omega))
  · exact ⟨rfl, rfl, rfl, rfl, rfl, rfl, trivial⟩
  · exact ⟨rfl, box_to (congrArg List.length (grow_go hge1 rfl)) rfl, row_to (grow_go hge1 rfl) rfl, trivial⟩
  · exact chk_mk ⟨rfl, rfl, rfl, rfl, rfl, rfl, trivial⟩ ⟨rfl, rfl, cloX_row (l := (F_sheet_numbers, 17)) (e := T_i64) (sz := 1) (Clo.map fI _), trivial⟩ rfl
  intro i2 hi IH
  refine LoopOK.round hTh hMx ?_
  conv => whnf
  refine cond_split (fun h => ?_) (fun hz2 => ?_)
  · have hlt := lt_of_dec h
    have hgl := grow_len (pre := ([x.hor] ++ x.paths.flatMap nuPth)) (f := nuDor) hlt
    have hgb : (grow ([x.hor] ++ x.paths.flatMap nuPth) nuDor x.doors (i2 + 1)).length ≤ 4294967296 := Nat.le_trans grow_le (by have := l2; omega)
    conv => whnf
    refine IndexTo.at (map_at cDor hlt) ?_
    conv => whnf
    refine ⟨by simp only [List.length_map, List.length_append, List.length_cons, List.length_nil], by simp only [nuDor, List.length_cons, List.length_nil, List.length_map, List.length_append] at hgl ⊢; omega, ?_⟩
    conv => whnf
    refine CallTo.upd (MeetsV.of (m_numbers_1 G _ _ (by simp only [nuDor, List.length_cons, List.length_nil, List.length_map, List.length_append] at hgl ⊢; omega) (Clo.append (ys := [cI (x.doors[i2]).ln]) (Clo.map fI _) rfl))) ⟨box_to (by simp only [List.length_map, List.length_append, List.length_cons, List.length_nil]) rfl, rfl, trivial⟩ rfl ?_
    conv => whnf
    refine WrapTo.i64 (by omega) ?_
    conv => whnf
    refine LoopOK.weak _ _ ?_ ?_ ?_ (IH (i2 + 1) (by omega) (by omega))
    · exact ⟨rfl, rfl, rfl, rfl, rfl, rfl, trivial⟩
    · exact ⟨rfl, box_to (by simp only [nuDor, List.length_cons, List.length_nil, List.length_map, List.length_append] at hgl ⊢; omega) rfl, congrArg (fun z => some (ABox.row T_i64 1 z)) ((by rw [List.append_assoc]; exact grow_succ hlt)), trivial⟩
    · exact chk_mk ⟨rfl, rfl, rfl, rfl, rfl, rfl, trivial⟩ ⟨rfl, rfl, cloX_row (l := (F_sheet_numbers, 17)) (e := T_i64) (sz := 1) (Clo.map fI _), trivial⟩ rfl
  have hge2 := le_of_dec hz2
  conv => whnf
  refine LoopOK.weak _ _ ?_ ?_ ?_ (LoopOK.ind (fun i : Nat => x.routes.length - i) (fun i => [(1, .ref (F_sheet_numbers, 1) 0), (3, .ref (F_sheet_numbers, 3) 0), (4, .fn (.func F_sheet_numbers_1) [] [.ref (F_sheet_numbers, 3) 0]), (50, .lst 4 (x.routes.map cRte)), (51, .int .i64 (x.routes.map cRte).length), (52, .int .i64 i)]) (fun i => [((F_sheet_numbers, 1), .cells T_api_Sheet (cSht x)), ((F_sheet_numbers, 3), .cells T_S_i64 [.own (F_sheet_numbers, 17) (grow ([x.hor] ++ x.paths.flatMap nuPth ++ x.doors.flatMap nuDor) nuRte x.routes i).length]), ((F_sheet_numbers, 17), .row T_i64 1 ((grow ([x.hor] ++ x.paths.flatMap nuPth ++ x.doors.flatMap nuDor) nuRte x.routes i).map cI))]) (fun i => i ≤ x.routes.length) ?_ 0 (by omega))
  · exact ⟨rfl, rfl, rfl, rfl, rfl, rfl, trivial⟩
  · exact ⟨rfl, box_to (congrArg List.length (grow_go hge2 rfl)) rfl, row_to (grow_go hge2 rfl) rfl, trivial⟩
  · exact chk_mk ⟨rfl, rfl, rfl, rfl, rfl, rfl, trivial⟩ ⟨rfl, rfl, cloX_row (l := (F_sheet_numbers, 17)) (e := T_i64) (sz := 1) (Clo.map fI _), trivial⟩ rfl
  intro i3 hi IH
  refine LoopOK.round hTh hMx ?_
  conv => whnf
  refine cond_split (fun h => ?_) (fun hz3 => ?_)
  · have hlt := lt_of_dec h
    have hgl := grow_len (pre := ([x.hor] ++ x.paths.flatMap nuPth ++ x.doors.flatMap nuDor)) (f := nuRte) hlt
    have hgb : (grow ([x.hor] ++ x.paths.flatMap nuPth ++ x.doors.flatMap nuDor) nuRte x.routes (i3 + 1)).length ≤ 4294967296 := Nat.le_trans grow_le (by have := l3; omega)
    conv => whnf
    refine IndexTo.at (map_at cRte hlt) ?_
    conv => whnf
    refine ⟨by simp only [List.length_map, List.length_append, List.length_cons, List.length_nil], by simp only [nuRte, List.length_cons, List.length_nil, List.length_map, List.length_append] at hgl ⊢; omega, ?_⟩
    conv => whnf
    refine ⟨by simp only [List.length_map, List.length_append, List.length_cons, List.length_nil], by simp only [nuRte, List.length_cons, List.length_nil, List.length_map, List.length_append] at hgl ⊢; omega, ?_⟩
    conv => whnf
    refine ⟨by kernel_rfl, ?_⟩
    conv => whnf
    refine WrapTo.i64 (by omega) ?_
    conv => whnf
    refine LoopOK.weak _ _ ?_ ?_ ?_ (IH (i3 + 1) (by omega) (by omega))
    · exact ⟨rfl, rfl, rfl, rfl, rfl, rfl, trivial⟩
    · exact ⟨rfl, box_to (by simp only [nuRte, List.length_cons, List.length_nil, List.length_map, List.length_append] at hgl ⊢; omega) rfl, congrArg (fun z => some (ABox.row T_i64 1 z)) ((by rw [List.append_assoc, ← List.map_append]; exact grow_succ hlt)), trivial⟩
    · exact chk_mk ⟨rfl, rfl, rfl, rfl, rfl, rfl, trivial⟩ ⟨rfl, rfl, cloX_row (l := (F_sheet_numbers, 17)) (e := T_i64) (sz := 1) (Clo.map fI _), trivial⟩ rfl
  have hge3 := le_of_dec hz3
  conv => whnf
  refine LoopOK.weak _ _ ?_ ?_ ?_ (LoopOK.ind (fun i : Nat => x.trips.length - i) (fun i => [(1, .ref (F_sheet_numbers, 1) 0), (3, .ref (F_sheet_numbers, 3) 0), (4, .fn (.func F_sheet_numbers_1) [] [.ref (F_sheet_numbers, 3) 0]), (65, .lst 5 (x.trips.map cTrp)), (66, .int .i64 (x.trips.map cTrp).length), (67, .int .i64 i)]) (fun i => [((F_sheet_numbers, 1), .cells T_api_Sheet (cSht x)), ((F_sheet_numbers, 3), .cells T_S_i64 [.own (F_sheet_numbers, 17) (grow ([x.hor] ++ x.paths.flatMap nuPth ++ x.doors.flatMap nuDor ++ x.routes.flatMap nuRte) nuTrp x.trips i).length]), ((F_sheet_numbers, 17), .row T_i64 1 ((grow ([x.hor] ++ x.paths.flatMap nuPth ++ x.doors.flatMap nuDor ++ x.routes.flatMap nuRte) nuTrp x.trips i).map cI))]) (fun i => i ≤ x.trips.length) ?_ 0 (by omega))
  · exact ⟨rfl, rfl, rfl, rfl, rfl, rfl, trivial⟩
  · exact ⟨rfl, box_to (congrArg List.length (grow_go hge3 rfl)) rfl, row_to (grow_go hge3 rfl) rfl, trivial⟩
  · exact chk_mk ⟨rfl, rfl, rfl, rfl, rfl, rfl, trivial⟩ ⟨rfl, rfl, cloX_row (l := (F_sheet_numbers, 17)) (e := T_i64) (sz := 1) (Clo.map fI _), trivial⟩ rfl
  intro i4 hi IH
  refine LoopOK.round hTh hMx ?_
  conv => whnf
  refine cond_split (fun h => ?_) (fun hz4 => ?_)
  · have hlt := lt_of_dec h
    have hgl := grow_len (pre := ([x.hor] ++ x.paths.flatMap nuPth ++ x.doors.flatMap nuDor ++ x.routes.flatMap nuRte)) (f := nuTrp) hlt
    have hgb : (grow ([x.hor] ++ x.paths.flatMap nuPth ++ x.doors.flatMap nuDor ++ x.routes.flatMap nuRte) nuTrp x.trips (i4 + 1)).length ≤ 4294967296 := Nat.le_trans grow_le (by have := l4; omega)
    conv => whnf
    refine IndexTo.at (map_at cTrp hlt) ?_
    conv => whnf
    refine ⟨by simp only [List.length_map, List.length_append, List.length_cons, List.length_nil], by simp only [nuTrp, List.length_cons, List.length_nil, List.length_map, List.length_append] at hgl ⊢; omega, ?_⟩
    conv => whnf
    refine WrapTo.i64 (by omega) ?_
    conv => whnf
    refine LoopOK.weak _ _ ?_ ?_ ?_ (IH (i4 + 1) (by omega) (by omega))
    · exact ⟨rfl, rfl, rfl, rfl, rfl, rfl, trivial⟩
    · exact ⟨rfl, box_to (by simp only [nuTrp, List.length_cons, List.length_nil, List.length_map, List.length_append] at hgl ⊢; omega) rfl, congrArg (fun z => some (ABox.row T_i64 1 z)) (grow_succ hlt), trivial⟩
    · exact chk_mk ⟨rfl, rfl, rfl, rfl, rfl, rfl, trivial⟩ ⟨rfl, rfl, cloX_row (l := (F_sheet_numbers, 17)) (e := T_i64) (sz := 1) (Clo.map fI _), trivial⟩ rfl
  have hge4 := le_of_dec hz4
  conv => whnf
  refine LoopOK.weak _ _ ?_ ?_ ?_ (LoopOK.ind (fun i : Nat => x.hazards.length - i) (fun i => [(1, .ref (F_sheet_numbers, 1) 0), (3, .ref (F_sheet_numbers, 3) 0), (4, .fn (.func F_sheet_numbers_1) [] [.ref (F_sheet_numbers, 3) 0]), (82, .lst 5 (x.hazards.map cHzd)), (83, .int .i64 (x.hazards.map cHzd).length), (84, .int .i64 i)]) (fun i => [((F_sheet_numbers, 1), .cells T_api_Sheet (cSht x)), ((F_sheet_numbers, 3), .cells T_S_i64 [.own (F_sheet_numbers, 17) (grow ([x.hor] ++ x.paths.flatMap nuPth ++ x.doors.flatMap nuDor ++ x.routes.flatMap nuRte ++ x.trips.flatMap nuTrp) nuHzd x.hazards i).length]), ((F_sheet_numbers, 17), .row T_i64 1 ((grow ([x.hor] ++ x.paths.flatMap nuPth ++ x.doors.flatMap nuDor ++ x.routes.flatMap nuRte ++ x.trips.flatMap nuTrp) nuHzd x.hazards i).map cI))]) (fun i => i ≤ x.hazards.length) ?_ 0 (by omega))
  · exact ⟨rfl, rfl, rfl, rfl, rfl, rfl, trivial⟩
  · exact ⟨rfl, box_to (congrArg List.length (grow_go hge4 rfl)) rfl, row_to (grow_go hge4 rfl) rfl, trivial⟩
  · exact chk_mk ⟨rfl, rfl, rfl, rfl, rfl, rfl, trivial⟩ ⟨rfl, rfl, cloX_row (l := (F_sheet_numbers, 17)) (e := T_i64) (sz := 1) (Clo.map fI _), trivial⟩ rfl
  intro i5 hi IH
  refine LoopOK.round hTh hMx ?_
  conv => whnf
  refine cond_split (fun h => ?_) (fun hz5 => ?_)
  · have hlt := lt_of_dec h
    have hgl := grow_len (pre := ([x.hor] ++ x.paths.flatMap nuPth ++ x.doors.flatMap nuDor ++ x.routes.flatMap nuRte ++ x.trips.flatMap nuTrp)) (f := nuHzd) hlt
    have hgb : (grow ([x.hor] ++ x.paths.flatMap nuPth ++ x.doors.flatMap nuDor ++ x.routes.flatMap nuRte ++ x.trips.flatMap nuTrp) nuHzd x.hazards (i5 + 1)).length ≤ 4294967296 := Nat.le_trans grow_le (by have := l4; simp only [numbersL] at hl; omega)
    conv => whnf
    refine IndexTo.at (map_at cHzd hlt) ?_
    conv => whnf
    refine CallTo.upd (MeetsV.of (m_numbers_1 G _ _ (by simp only [nuHzd, List.length_cons, List.length_nil, List.length_map, List.length_append] at hgl ⊢; omega) (Clo.map fI _))) ⟨box_to (by simp only [List.length_map]) rfl, rfl, trivial⟩ rfl ?_
    conv => whnf
    refine WrapTo.i64 (by omega) ?_
    conv => whnf
    refine LoopOK.weak _ _ ?_ ?_ ?_ (IH (i5 + 1) (by omega) (by omega))
    · exact ⟨rfl, rfl, rfl, rfl, rfl, rfl, trivial⟩
    · exact ⟨rfl, box_to (by simp only [nuHzd, List.length_cons, List.length_nil, List.length_map, List.length_append] at hgl ⊢; omega) rfl, congrArg (fun z => some (ABox.row T_i64 1 z)) (grow_succ hlt), trivial⟩
    · exact chk_mk ⟨rfl, rfl, rfl, rfl, rfl, rfl, trivial⟩ ⟨rfl, rfl, cloX_row (l := (F_sheet_numbers, 17)) (e := T_i64) (sz := 1) (Clo.map fI _), trivial⟩ rfl
  have hge5 := le_of_dec hz5
  conv => whnf
  have hfin : grow ([x.hor] ++ x.paths.flatMap nuPth ++ x.doors.flatMap nuDor ++ x.routes.flatMap nuRte ++ x.trips.flatMap nuTrp) nuHzd x.hazards i5 = numbersL x := grow_all hge5
  rw [← hfin]
  exact Fin.own hTh rfl rfl rfl (by simp only [List.length_map]) (Clo.map fI _)
end Go.Proofs.YtmfolelgdpkkoaaGreatDoor
