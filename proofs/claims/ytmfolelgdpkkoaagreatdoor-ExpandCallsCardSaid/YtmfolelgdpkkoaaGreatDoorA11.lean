/- Runs counted, told, looked at and made later as the document says: the law's walk. -/
import Derived.Deep.DeepHandedRow
import Derived.Deep.DeepWitnessRowRef
import Derived.Lay
import Derived.Lib.LaidTab
import Derived.OpenShut
import Derived.ProofKit
import Derived.Stop.LaidErr
import Derived.WalkKit
import Derived.Test.YtmfolelgdpkkoaaGreatDoorA10
import Derived.Test.YtmfolelgdpkkoaaGreatDoorCards
import Derived.Test.YtmfolelgdpkkoaaGreatDoorTie
set_option linter.unusedVariables false
set_option linter.unusedSimpArgs false
set_option maxRecDepth 10000
namespace Go.Ab
theorem light_small40 {w : Wld} (h : lightW w 40 = true) (hs : ∀ l ∈ nmK w.names, ∀ s ∈ l, s.length ≤ 9223372036854775807) : WldSmall w := by
  simp only [lightW, Bool.and_eq_true, Bool.not_eq_true', manyN, manyW, Bool.or_eq_false_iff, decide_eq_false_iff_not] at h
  obtain ⟨⟨⟨⟨⟨⟨⟨a1, a2⟩, a3⟩, a4⟩, a5⟩, a6⟩, ⟨⟨⟨b1, b2⟩, b3⟩, b4⟩, b5⟩, c⟩ := h
  refine ⟨by omega, by omega, by omega, by omega, by omega, by omega, by omega, by omega, by omega, by omega, by omega, fun r hr => ?_, hs⟩
  have := List.any_eq_false.1 c r hr
  simp [heavyR] at this
  omega
def lightL (w : Wld) : Bool := lightW w 40 && (!((checkS w).err == 0) || decide (sumC w w.trips.length ≤ 600) || decide (16384 < sumC w w.trips.length))
def exE : Wld := ⟨30, ⟨[[97], [98], [99]], [], [], [[114]], [[116]], []⟩, [], [], [⟨[0, 1, 2], [5, 3], [2]⟩], [⟨0, 1, 10, 40⟩], []⟩
def exR : Rn := ⟨0, 1, [11, 16, 21], [11, 18, 21]⟩
theorem exE_check : (checkS exE).err = 0 := by decide +kernel
theorem exE_one : oneE exE 0 1 = (exR, 0) := by decide +kernel
theorem exE_count : countE exE 0 = 2 := by
  have h4 : (countS (trpW exE 0).fr (trpW exE 0).ev (trpW exE 0).un).toNat = 4 := by decide +kernel
  have e : countT exE 0 = 2 := by
    unfold countT
    rw [h4, srch, dif_pos (by decide), if_neg (by decide +kernel), srch, dif_pos (by decide), if_pos (by decide +kernel), srch, dif_neg (by decide)]
  unfold countE
  rw [if_pos ⟨exE_check, by decide +kernel⟩]
  exact congrArg Int.ofNat e
theorem exE_small : WldSmall exE := ⟨by decide, by decide, by decide, by decide, by decide, by decide, by decide, by decide, by decide, by decide, by decide, by decide, by decide⟩
theorem oneS_len {w : Wld} (hg : WldGood w) {trip : Nat} (ht : trip < w.trips.length) (no : Int) : (oneS w trip no).1.arr.length ≤ 4294967296 ∧ (oneS w trip no).1.dep.length ≤ 4294967296 := by
  have hr := (good_go hg ht).2.2.few
  unfold oneS
  split
  · exact ⟨by decide, by decide⟩
  · split
    · exact ⟨by decide, by decide⟩
    · have := goR_len (rteW w trip) (atS (trpW w trip).fr (trpW w trip).ev no).1 (rteW w trip).rides.length
      simp only [runR]
      omega
theorem oneE_len {w : Wld} (trip no : Int) : (oneE w trip no).1.arr.length ≤ 4294967296 ∧ (oneE w trip no).1.dep.length ≤ 4294967296 := by
  unfold oneE
  split
  · exact ⟨by decide, by decide⟩
  · rename_i h1
    split
    · rename_i h2
      obtain ⟨t, rfl, ht⟩ := isT_spec h2.1
      exact oneS_len (good_of (by simpa using h1)) ht no
    · exact ⟨by decide, by decide⟩
theorem runsN_each {w : Wld} (hg : WldGood w) : ∀ n, n ≤ w.trips.length → ∀ r ∈ runsN w n, r.arr.length ≤ 4294967296 ∧ r.dep.length ≤ 4294967296
  | 0, _, r, hr => by cases hr
  | n + 1, hn, r, hr => by
    rcases List.mem_append.1 hr with h | h
    · exact runsN_each hg n (by omega) r h
    · obtain ⟨k, _, rfl⟩ := List.mem_map.1 h
      exact oneS_len hg (by omega) _
theorem allE_each (w : Wld) : (allE w).1.length ≤ 65536 ∧ ∀ r ∈ (allE w).1, r.arr.length ≤ 4294967296 ∧ r.dep.length ≤ 4294967296 := by
  unfold allE
  split
  · exact ⟨by decide, fun r hr => by cases hr⟩
  · rename_i h1
    split
    · exact ⟨by decide, fun r hr => by cases hr⟩
    · rename_i h2
      refine ⟨by simp only [runsN_len]; omega, runsN_each (good_of (by simpa using h1)) _ (Nat.le_refl _)⟩
theorem laterS_len (r : Rn) (f b : Int) (h1 : r.arr.length ≤ 100) (h2 : r.dep.length ≤ 100) : (laterS r f b).1.arr.length ≤ 4294967296 ∧ (laterS r f b).1.dep.length ≤ 4294967296 := by
  unfold laterS
  split
  · exact ⟨by decide, by decide⟩
  · split
    · exact ⟨by decide, by decide⟩
    · simp only [List.length_map, List.length_range]; omega
theorem beq_int (i : Int) : (i == i) = true := by simp
theorem rn_ext {p q : Rn} (h1 : p.trip = q.trip) (h2 : p.no = q.no) (h3 : p.arr = q.arr) (h4 : p.dep = q.dep) : p = q := by
  cases p; cases q; simp_all
end Go.Ab
namespace Go.Proofs.YtmfolelgdpkkoaaGreatDoor
open Go Go.Ab
theorem m_kit_OwnRun (G : GlP) (r : Rn) (hr : RnFits r) : Meets Pg G F_kit_OwnRun [.agg (cRun r)] [] (.agg (cRun r)) [] := by
  have f1 := hr.arr
  have f2 := hr.dep
  refine meets_pure (F := fe_kit_OwnRun) hTh hMx func_kit_OwnRun rfl call_kit_OwnRun rfl rfl rfl ?_
  conv => whnf
  refine CallTo.fn (m_kit_Own_int64 G r.arr (by omega)) ?_
  conv => whnf
  refine CallTo.fn (m_kit_Own_int64 G r.dep (by omega)) ?_
  conv => whnf
  refine ⟨by kernel_rfl, ?_⟩
  conv => whnf
  exact Fin.pure hTh [.agg (cRun r)] rfl rfl rfl
theorem m_kit_Run_same (G : GlP) (r : Rn) (h1 : r.arr.length ≤ 4294967296) (h2 : r.dep.length ≤ 4294967296) : Meets Pg G F_kit_Run [.agg (cRun r), .agg (cRun r)] [] (.bool true) [] := by
  have c1 := m_kit_Same_int64 G r.arr r.arr h1
  rw [decide_eq_true rfl] at c1
  have c2 := m_kit_Same_int64 G r.dep r.dep h2
  rw [decide_eq_true rfl] at c2
  refine meets_pure (F := fe_kit_Run) hTh hMx func_kit_Run rfl call_kit_Run rfl rfl rfl ?_
  conv => whnf
  rw [beq_int r.trip]
  conv => whnf
  rw [beq_int r.no]
  conv => whnf
  refine CallTo.fn (c1) ?_
  conv => whnf
  refine CallTo.fn (c2) ?_
  conv => whnf
  exact Fin.one hTh rfl (rfl) rfl
theorem m_kit_Runs_same (G : GlP) (rs : List Rn) (hl : rs.length ≤ 65536) (h : ∀ r ∈ rs, r.arr.length ≤ 4294967296 ∧ r.dep.length ≤ 4294967296) : Meets Pg G F_kit_Runs [.lst 4 (rs.map cRun), .lst 4 (rs.map cRun)] [] (.bool true) [] := by
  refine meets_pure (F := fe_kit_Runs) hTh hMx func_kit_Runs rfl call_kit_Runs rfl rfl rfl ?_
  conv => whnf
  refine cond_split (fun h => ?_) (fun _ => ?_)
  · simp at h
  conv => whnf
  refine LoopOK.weak _ _ ?_ ?_ ?_ (LoopOK.ind (fun i : Nat => rs.length - i) (fun i => [(0, .lst 4 (rs.map cRun)), (1, .lst 4 (rs.map cRun)), (5, .int .i64 (i : Int))]) (fun _ => []) (fun i => i ≤ rs.length) ?_ 0 (by omega))
  · exact ⟨rfl, rfl, rfl, trivial⟩
  · trivial
  · rfl
  intro i hi IH
  refine LoopOK.round hTh hMx ?_
  conv => whnf
  refine cond_split (fun h1 => ?_) (fun hz => ?_)
  · have hlt := lt_of_dec h1
    have hb := h _ (List.getElem_mem hlt)
    conv => whnf
    refine IndexTo.at (map_at cRun hlt) ?_
    conv => whnf
    refine IndexTo.at (map_at cRun hlt) ?_
    conv => whnf
    refine CallTo.fn (m_kit_Run_same G rs[i] hb.1 hb.2) ?_
    conv => whnf
    refine ⟨by kernel_rfl, ?_⟩
    conv => whnf
    refine WrapTo.i64 (by omega) ?_
    conv => whnf
    refine LoopOK.weak _ _ ?_ ?_ ?_ (IH (i + 1) (by omega) (by omega))
    · exact ⟨rfl, rfl, rfl, trivial⟩
    · trivial
    · rfl
  · conv => whnf
    exact Fin.one hTh rfl (rfl) rfl
theorem m_law10_example (G : GlP) : Meets Pg G F_law10_example [] [] (.agg (cWld exE)) [] := by
  refine meets_pure (F := fe_law10_example) hTh hMx func_law10_example rfl call_law10_example rfl rfl rfl ?_
  conv => whnf
  refine Fin.less [] [(0, .ref (F_law10_example, 0) 0)] [((F_law10_example, 0), .cells T_api_World (cWld exE))] ⟨.refl _, trivial⟩ ⟨⟨_, rfl, .cells (.cons (.refl _) (.cons (.refl _) (.cons (.emp 1) (.cons (.emp 1) (.cons (.refl _) (.cons (.refl _) (.cons (.emp 1) (.cons (.emp 3) (.cons (.emp 6) (.cons (.refl _) (.cons (.refl _) (.cons (.emp 5) (.refl _)))))))))))))⟩, trivial⟩ trivial rfl ?_
  exact Fin.pure hTh [.agg (cWld exE)] rfl rfl rfl
theorem m_law10_lives (G : GlP) (hR : Res G) : Meets Pg G F_law10_lives [] [] (.bool true) [] := by
  have c1 := m_expand_One G hR exE exE_small 0 1 (by decide)
  rw [exE_one] at c1
  have c2 := m_expand_Count G hR exE exE_small 0
  rw [exE_count] at c2
  refine meets_pure (F := fe_law10_lives) hTh hMx func_law10_lives rfl call_law10_lives rfl rfl rfl ?_
  conv => whnf
  refine CallTo.fn (m_law10_example G) ?_
  conv => whnf
  refine CallTo.fn (c1) ?_
  conv => whnf
  refine CallTo.fn (m_law10_example G) ?_
  conv => whnf
  refine CallTo.fn (c2) ?_
  conv => whnf
  refine CallTo.fn (m_kit_Run_same G exR (by decide) (by decide)) ?_
  conv => whnf
  exact Fin.one hTh rfl (rfl) rfl
theorem m_law10_light (G : GlP) (hR : Res G) (w : Wld) (hs : ∀ l ∈ nmK w.names, ∀ s ∈ l, s.length ≤ 9223372036854775807) : Meets Pg G F_law10_light [.agg (cWld w)] [] (.bool (lightL w)) [] := by
  refine meets_pure (F := fe_law10_light) hTh hMx func_law10_light rfl call_law10_light rfl rfl rfl ?_
  conv => whnf
  refine CallTo.fn (m_kit_LightWorld G w 40 (by decide)) ?_
  conv => whnf
  cases h1 : lightW w 40
  · have e : lightL w = false := by simp [lightL, h1]
    rw [e]
    conv => whnf
    have M := m_kit_LightWorld G w 40 (by decide)
    rw [h1] at M
    refine CallTo.fn (M) ?_
    conv => whnf
    exact Fin.one hTh rfl (rfl) rfl
  have hw := light_small40 h1 hs
  have hl := hw.fits.trips
  conv => whnf
  refine CallTo.fn (m_ref09_Check G hR w hw) ?_
  conv => whnf
  refine OpTo.field hTh rfl rfl rfl rfl ?_
  conv => whnf
  refine cond_split (fun h => ?_) (fun h => ?_)
  · have h' : ¬ (checkS w).err = 0 := by simpa using h
    have e : lightL w = true := by simp [lightL, h1, h']
    rw [e]
    conv => whnf
    have M := m_kit_LightWorld G w 40 (by decide)
    rw [h1] at M
    refine CallTo.fn (M) ?_
    conv => whnf
    exact Fin.one hTh rfl (rfl) rfl
  have h' : (checkS w).err = 0 := by simpa using h
  have bd : ∀ i, sumC w i ≤ i * 1099511627777 := fun i => by
    induction i with
    | zero => simp [sumC]
    | succ i ih => have := countT_bd w i; simp only [sumC]; omega
  conv => whnf
  refine LoopOK.weak _ _ ?_ ?_ ?_ (LoopOK.ind (fun i : Nat => w.trips.length - i) (fun i => [(1, .ref (F_law10_light, 1) 0), (3, .int .i64 (sumC w i : Nat)), (4, .int .i64 (i : Int))]) (fun _ => [((F_law10_light, 1), .cells T_api_World (cWld w))]) (fun i => i ≤ w.trips.length) ?_ 0 (by omega))
  · exact ⟨rfl, rfl, rfl, trivial⟩
  · exact ⟨rfl, trivial⟩
  · rfl
  intro i hi IH
  refine LoopOK.round hTh hMx ?_
  conv => whnf
  refine cond_split (fun h2 => ?_) (fun hz => ?_)
  · have hlt : i < w.trips.length := by simpa using h2
    have e : countE w (i : Int) = countT w i := by simp [countE, h', isT, hlt]
    have M := m_ref10_Count G hR w hw (i : Int)
    rw [e] at M
    have b1 := bd i
    have b2 := countT_bd w i
    conv => whnf
    refine CallTo.fn (M) ?_
    conv => whnf
    refine WrapTo.i64 (by omega) ?_
    conv => whnf
    refine WrapTo.i64 (by omega) ?_
    conv => whnf
    refine LoopOK.weak _ _ ?_ ?_ ?_ (IH (i + 1) (by omega) (by omega))
    · exact ⟨rfl, rfl, rfl, trivial⟩
    · exact ⟨rfl, trivial⟩
    · rfl
  have hge : w.trips.length ≤ i := by simpa using hz
  obtain rfl : i = w.trips.length := by omega
  conv => whnf
  refine cond_split (fun h3 => ?_) (fun h3 => ?_)
  · have e : lightL w = true := by
      have : sumC w w.trips.length ≤ 600 := by simp at h3; omega
      simp [lightL, h1, this]
    rw [e]
    conv => whnf
    exact Fin.one hTh rfl (rfl) rfl
  · have h3' : ¬ sumC w w.trips.length ≤ 600 := by simp at h3; omega
    conv => whnf
    have e : lightL w = decide (16384 < ((sumC w w.trips.length : Nat) : Int)) := by
      simp only [lightL, h1, h', h3', Bool.true_and]
      simp
      omega
    rw [e]
    exact Fin.one hTh rfl (rfl) rfl
theorem m_law10_ExpandCalls (G : GlP) (hR : Res G) (w : Wld) (r : Rn) (trip no from_ by_ : Int) (hs : ∀ l ∈ nmK w.names, ∀ s ∈ l, s.length ≤ 9223372036854775807) (hno : no ≤ 9223372036854775807) (hrno : r.no ≤ 9223372036854775807) (hby : by_ ≤ 9223372036854775807) :
    Meets Pg G F_law10_ExpandCalls [.agg (cWld w), .agg (cRun r), .int .i64 trip, .int .i64 no, .int .i64 from_, .int .i64 by_] [] (.bool true) [] := by
  refine meets_pure (F := fe_law10_ExpandCalls) hTh hMx func_law10_ExpandCalls rfl call_law10_ExpandCalls rfl rfl rfl ?_
  conv => whnf
  refine CallTo.fn (m_law10_lives G hR) ?_
  conv => whnf
  refine CallTo.fn (m_law10_light G hR w hs) ?_
  conv => whnf
  cases h1 : lightL w
  · conv => whnf
    exact Fin.one hTh rfl (rfl) rfl
  have hw := light_small40 (w := w) (by simp only [lightL, Bool.and_eq_true] at h1; exact h1.1) hs
  conv => whnf
  refine cond_split (fun h => ?_) (fun h => ?_)
  · conv => whnf
    exact Fin.one hTh rfl (rfl) rfl
  have f1 : r.arr.length ≤ 100 := by simp at h; omega
  conv => whnf
  refine cond_split (fun h => ?_) (fun h => ?_)
  · conv => whnf
    exact Fin.one hTh rfl (rfl) rfl
  have f2 : r.dep.length ≤ 100 := by simp at h; omega
  have hr : RnFits r := ⟨by omega, by omega⟩
  conv => whnf
  refine CallTo.fn (m_expand_One G hR w hw trip no hno) ?_
  conv => whnf
  refine CallTo.fn (m_ref10_One G hR w hw trip no hno) ?_
  conv => whnf
  refine CallTo.fn (m_expand_All G hR w hw) ?_
  conv => whnf
  refine CallTo.fn (m_ref10_All G hR w hw) ?_
  conv => whnf
  refine CallTo.fn (m_kit_OwnRun G r hr) ?_
  conv => whnf
  refine CallTo.fn (m_expand_Later G r hr from_ by_ hby) ?_
  conv => whnf
  refine CallTo.fn (m_ref10_Later G r hr from_ by_ hby) ?_
  conv => whnf
  refine CallTo.fn (m_expand_Count G hR w hw trip) ?_
  conv => whnf
  refine CallTo.fn (m_ref10_Count G hR w hw trip) ?_
  conv => whnf
  rw [beq_int (countE w trip)]
  conv => whnf
  refine CallTo.fn (m_kit_Run_same G (oneE w trip no).1 (oneE_len trip no).1 (oneE_len trip no).2) ?_
  conv => whnf
  rw [beq_int (oneE w trip no).2]
  conv => whnf
  refine CallTo.fn (m_kit_Runs_same G (allE w).1 (allE_each w).1 (allE_each w).2) ?_
  conv => whnf
  rw [beq_int (allE w).2]
  conv => whnf
  refine CallTo.fn (m_expand_Check G hR w hw r hr hrno) ?_
  conv => whnf
  refine CallTo.fn (m_ref10_Check G hR w hw r hr hrno) ?_
  conv => whnf
  rw [beq_int (checkR w r)]
  conv => whnf
  refine CallTo.fn (m_kit_Run_same G (laterS r from_ by_).1 (laterS_len r from_ by_ f1 f2).1 (laterS_len r from_ by_ f1 f2).2) ?_
  conv => whnf
  rw [beq_int (laterS r from_ by_).2]
  conv => whnf
  refine ⟨by kernel_rfl, ?_⟩
  conv => whnf
  exact Fin.one hTh rfl (rfl) rfl
end Go.Proofs.YtmfolelgdpkkoaaGreatDoor
/- Words: a text of small bytes, cut at its spaces; the reserved words. -/
set_option linter.unusedVariables false
set_option linter.unusedSimpArgs false
set_option maxRecDepth 10000
namespace Go.Ab
def spB (c : UInt8) : Bool := c == 9 || c == 10 || c == 11 || c == 12 || c == 13 || c == 32
def spI (c : UInt8) : Int := if spB c then 1 else 0
def tabA : List AV := (List.range 256).map fun i => AV.int .u8 (spI (UInt8.ofNat i))
theorem tabA_drop (c : UInt8) : tabA.drop (c.toNat * 1) = AV.int .u8 (spI c) :: tabA.drop (c.toNat + 1) := by
  have h : c.toNat < tabA.length := by simp [tabA]; exact c.toNat_lt
  rw [Nat.mul_one, List.drop_eq_getElem_cons h]
  simp [tabA]
def wasF (s : Str) : Nat → Int
  | 0 => 1
  | i + 1 => spI (s.getD i 0)
def cntF (s : Str) : Nat → Int
  | 0 => 0
  | i + 1 => cntF s i + (if wasF s i = 1 ∧ spB (s.getD i 0) = false then 1 else 0)
theorem spI01 (c : UInt8) : spI c = 0 ∧ spB c = false ∨ spI c = 1 ∧ spB c = true := by
  unfold spI
  cases spB c <;> simp
theorem was01 (s : Str) (i : Nat) : wasF s i = 0 ∨ wasF s i = 1 := by
  cases i with
  | zero => exact .inr rfl
  | succ i =>
    simp only [wasF]
    rcases spI01 (s.getD i 0) with h | h
    · exact .inl h.1
    · exact .inr h.1
theorem cntF_bd (s : Str) : ∀ i, 0 ≤ cntF s i ∧ cntF s i ≤ i
  | 0 => ⟨Int.le_refl _, Int.le_refl _⟩
  | i + 1 => by
    have := cntF_bd s i
    simp only [cntF]
    split <;> omega
theorem orLow {a b : Int} (ha : 0 ≤ a ∧ a < 128) (hb : 0 ≤ b ∧ b < 128) : 0 ≤ bits .or .u8 a b ∧ bits .or .u8 a b < 128 := by
  obtain ⟨n, rfl⟩ := Int.eq_ofNat_of_zero_le ha.1
  obtain ⟨m, rfl⟩ := Int.eq_ofNat_of_zero_le hb.1
  have hn : n < 2 ^ 7 := by omega
  have hm : m < 2 ^ 7 := by omega
  have h := Nat.or_lt_two_pow hn hm
  have e : (BitVec.ofInt (IntKind.bits .u8) (n : Int) ||| BitVec.ofInt (IntKind.bits .u8) (m : Int)).toNat = n ||| m := by
    rw [BitVec.toNat_or]
    simp only [BitVec.ofInt_natCast, BitVec.toNat_ofNat, IntKind.bits]
    rw [Nat.mod_eq_of_lt (by omega), Nat.mod_eq_of_lt (by omega)]
  simp only [bits, e]
  have hw : IntKind.u8.wrap ((n ||| m : Nat) : Int) = ((n ||| m : Nat) : Int) := by
    simp [IntKind.wrap, IntKind.bits, IntKind.signed]
    omega
  rw [hw]
  omega
def skF (s : Str) : Nat → Nat → Nat
  | 0, i => i
  | f + 1, i => if i < s.length ∧ spB (s.getD i 0) = true then skF s f (i + 1) else i
def sk (s : Str) (i : Nat) : Nat := skF s (s.length - i) i
theorem sk_go {s : Str} {i : Nat} (h : i < s.length) (hs : spB (s.getD i 0) = true) : sk s i = sk s (i + 1) := by
  unfold sk
  obtain ⟨k, hk⟩ : ∃ k, s.length - i = k + 1 := ⟨s.length - i - 1, by omega⟩
  rw [hk, show s.length - (i + 1) = k from by omega]
  simp only [skF]
  rw [if_pos ⟨h, hs⟩]
theorem sk_stop {s : Str} {i : Nat} (h : ¬ (i < s.length ∧ spB (s.getD i 0) = true)) : sk s i = i := by
  unfold sk
  cases s.length - i with
  | zero => rfl
  | succ k => simp only [skF]; rw [if_neg h]
theorem skF_le (s : Str) : ∀ f i, i ≤ s.length → i ≤ skF s f i ∧ skF s f i ≤ s.length
  | 0, i, h => ⟨Nat.le_refl _, h⟩
  | f + 1, i, h => by
    simp only [skF]
    split
    · rename_i hh
      have := skF_le s f (i + 1) (by omega)
      omega
    · exact ⟨Nat.le_refl _, h⟩
theorem sk_le (s : Str) (i : Nat) (h : i ≤ s.length) : i ≤ sk s i ∧ sk s i ≤ s.length := skF_le s _ i h
def endF (s : Str) (f : Nat) : List Str := if f < s.length then [s.drop f] else []
def scF (s : Str) : Nat → Nat → Nat → List Str
  | 0, f, i => endF s f
  | n + 1, f, i => if i < s.length then (if spB (s.getD i 0) then ((s.take i).drop f) :: scF s n (sk s (i + 1)) (sk s (i + 1)) else scF s n f (i + 1)) else endF s f
def resT : Str := "horizon stop path door route trip hazard from every open closed of on until stay".toByteArray.data.toList
def fieldsS (s : Str) : List Str := scF s s.length (sk s 0) (sk s 0)
/-- What is asked of the package variables: the table of spaces. -/
structure Spc (g : Nat) (G : GlP) : Prop where
  lt : g < G.ng
  tab : ∀ (w : World) (O : Nat → Prop), G.holds w → CvC w O tabA g 0
theorem OpTo.spc {P : Program} {G : GlP} {Θ : TT} (hΘ : TTok P Θ) {o : Oper} {T : TL} {L : BL} {K : AV → BL → Nat → Prop} {t : TypeId} {x ix : Operand} {y z : Ty} {e : TypeId} {g : Nat} (hS : Spc g G) {k : IntKind} {c : UInt8} (ho : o.op = .indexAddr t x ix)
    (hy : Θ t = some y) (hd : y.d = .array 256 e) (hz : Θ e = some z) (hz1 : z.size = 1) (hx : ev T x = .gp g) (hi : ev T ix = .int k (c.toNat : Int)) (hK : K (.pp (AV.int .u8 (spI c) :: tabA.drop (c.toNat + 1))) [] 0) : OpTo P G o T L K := by
  refine OpTo.gpAt hΘ ho hy hd hz hx hi (by exact c.toNat_lt) tabA hS.lt hS.tab ?_
  rw [hz1, tabA_drop]
  exact hK
theorem set_next {α : Type} {acc : List α} {n : Nat} (x y : α) (h : acc.length < n) : (acc ++ List.replicate (n - acc.length) x).set acc.length y = (acc ++ [y]) ++ List.replicate (n - (acc ++ [y]).length) x := by
  obtain ⟨k, hk⟩ : ∃ k, n - acc.length = k + 1 := ⟨n - acc.length - 1, by omega⟩
  rw [hk, show n - (acc ++ [y]).length = k from by simp; omega, List.replicate_succ]
  simp [List.set_append]
theorem get_next {acc : List Str} {n : Nat} (h : acc.length < n) : ((acc ++ List.replicate (n - acc.length) ([] : Str)).map cS)[acc.length]? = some (cS []) := by
  obtain ⟨k, hk⟩ : ∃ k, n - acc.length = k + 1 := ⟨n - acc.length - 1, by omega⟩
  rw [hk, List.replicate_succ]
  simp
theorem str_one (xs : List Str) : ∀ x ∈ xs.map cS, x.length = 1 := fun x hx => by
  obtain ⟨y, _, rfl⟩ := List.mem_map.1 hx
  rfl
theorem scF_end {s : Str} {n f i : Nat} (h : s.length ≤ i) : scF s n f i = endF s f := by
  cases n with
  | zero => rfl
  | succ n => simp only [scF]; rw [if_neg (by omega)]
end Go.Ab
namespace Go.Proofs.YtmfolelgdpkkoaaGreatDoor
open Go Go.Ab
def fldT (s : Str) (n : Nat) (a b c : Int) : TL := [(0, .str s), (9, .own (F_strings_Fields, 41) n), (10, .int .i64 a), (11, .int .i64 b), (12, .int .i64 c)]
def fldL (acc : List Str) : BL := [((F_strings_Fields, 41), .row T_string 1 (acc.map cS))]
theorem fld_skip1 (G : GlP) (hS : Spc gl_strings_Fields G) (s : Str) (n : Nat) (acc : List Str) (a b : Int) (j : Nat) (hl : s.length ≤ 65536) (hj : j ≤ s.length) {K : AE → TL → BL → Prop}
    (hK : ∀ T, SubT (fldT s n a b (sk s j)) T → K (.exit 2) T (fldL acc)) : LoopOK Pg G fe_strings_Fields [] (loopOf fn_strings_Fields 1) (fldT s n a b j) (fldL acc) K := by
  have hclo : ∀ (c : Int), cloChk [] (fldT s n a b c) (fldL acc) = true := fun c => chk_mk ⟨rfl, rfl, rfl, rfl, rfl, trivial⟩ ⟨cloX_row (l := jLr) (e := 0) (sz := 1) (Clo.map fS _), trivial⟩ rfl
  refine LoopOK.ind (fun i : Nat => s.length - i) (fun i => fldT s n a b i) (fun _ => fldL acc) (fun i => i ≤ s.length ∧ sk s i = sk s j) ?_ j ⟨hj, rfl⟩
  rintro i ⟨hi, hsk⟩ IH
  have fin2 : ¬ (i < s.length ∧ spB (s.getD i 0) = true) → sk s j = i := fun h => by rw [← hsk]; exact sk_stop h
  refine LoopOK.round hTh hMx ?_
  conv => whnf
  refine cond_split (fun h => ?_) (fun hz => ?_)
  · have hlt : i < s.length := by simpa using h
    conv => whnf
    refine ByteTo.at (some_getD 0 hlt) ?_
    conv => whnf
    refine OpTo.spc hTh hS rfl rfl rfl rfl rfl rfl rfl ?_
    conv => whnf
    refine cond_split (fun h2 => ?_) (fun h2 => ?_)
    · have hsp : spB (s.getD i 0) = true := by
        rcases spI01 (s.getD i 0) with h | h
        · rw [h.1] at h2; cases h2
        · exact h.2
      conv => whnf
      refine WrapTo.i64 (by omega) ?_
      conv => whnf
      refine LoopOK.weak _ _ ?_ ?_ (hclo _) (IH (i + 1) (by omega) ⟨by omega, by rw [← hsk]; exact (sk_go hlt hsp).symm⟩)
      · exact ⟨rfl, rfl, rfl, rfl, rfl, trivial⟩
      · exact ⟨rfl, trivial⟩
    · have hsp : spB (s.getD i 0) = false := by
        rcases spI01 (s.getD i 0) with h | h
        · exact h.2
        · rw [h.1] at h2; cases h2
      have e := fin2 (fun hh => by rw [hsp] at hh; cases hh.2)
      conv => whnf
      exact hK _ (by rw [e]; exact ⟨rfl, rfl, rfl, rfl, rfl, trivial⟩)
  · have e := fin2 (by simp at hz; omega)
    conv => whnf
    exact hK _ (by rw [e]; exact ⟨rfl, rfl, rfl, rfl, rfl, trivial⟩)
theorem fld_skip2 (G : GlP) (hS : Spc gl_strings_Fields G) (s : Str) (n : Nat) (acc : List Str) (a b : Int) (j : Nat) (hl : s.length ≤ 65536) (hj : j ≤ s.length) {K : AE → TL → BL → Prop}
    (hK : ∀ T, SubT (fldT s n a b (sk s j)) T → K (.exit 6) T (fldL acc)) : LoopOK Pg G fe_strings_Fields [] (loopOf fn_strings_Fields 3) (fldT s n a b j) (fldL acc) K := by
  have hclo : ∀ (c : Int), cloChk [] (fldT s n a b c) (fldL acc) = true := fun c => chk_mk ⟨rfl, rfl, rfl, rfl, rfl, trivial⟩ ⟨cloX_row (l := jLr) (e := 0) (sz := 1) (Clo.map fS _), trivial⟩ rfl
  refine LoopOK.ind (fun i : Nat => s.length - i) (fun i => fldT s n a b i) (fun _ => fldL acc) (fun i => i ≤ s.length ∧ sk s i = sk s j) ?_ j ⟨hj, rfl⟩
  rintro i ⟨hi, hsk⟩ IH
  have fin2 : ¬ (i < s.length ∧ spB (s.getD i 0) = true) → sk s j = i := fun h => by rw [← hsk]; exact sk_stop h
  refine LoopOK.round hTh hMx ?_
  conv => whnf
  refine cond_split (fun h => ?_) (fun hz => ?_)
  · have hlt : i < s.length := by simpa using h
    conv => whnf
    refine ByteTo.at (some_getD 0 hlt) ?_
    conv => whnf
    refine OpTo.spc hTh hS rfl rfl rfl rfl rfl rfl rfl ?_
    conv => whnf
    refine cond_split (fun h2 => ?_) (fun h2 => ?_)
    · have hsp : spB (s.getD i 0) = true := by
        rcases spI01 (s.getD i 0) with h | h
        · rw [h.1] at h2; cases h2
        · exact h.2
      conv => whnf
      refine WrapTo.i64 (by omega) ?_
      conv => whnf
      refine LoopOK.weak _ _ ?_ ?_ (hclo _) (IH (i + 1) (by omega) ⟨by omega, by rw [← hsk]; exact (sk_go hlt hsp).symm⟩)
      · exact ⟨rfl, rfl, rfl, rfl, rfl, trivial⟩
      · exact ⟨rfl, trivial⟩
    · have hsp : spB (s.getD i 0) = false := by
        rcases spI01 (s.getD i 0) with h | h
        · exact h.2
        · rw [h.1] at h2; cases h2
      have e := fin2 (fun hh => by rw [hsp] at hh; cases hh.2)
      conv => whnf
      exact hK _ (by rw [e]; exact ⟨rfl, rfl, rfl, rfl, rfl, trivial⟩)
  · have e := fin2 (by simp at hz; omega)
    conv => whnf
    exact hK _ (by rw [e]; exact ⟨rfl, rfl, rfl, rfl, rfl, trivial⟩)
theorem m_strings_Fields (G : GlP) (hS : Spc gl_strings_Fields G) (s : Str) (hl : s.length ≤ 65536) (ha : ∀ c ∈ s, c.toNat < 128) (hn : cntF s s.length = (fieldsS s).length) : Meets Pg G F_strings_Fields [.str s] [] (.lst 1 ((fieldsS s).map cS)) [] := by
  have hbyte : ∀ {i : Nat}, i < s.length → s[i]? = some (s.getD i 0) := fun h => some_getD 0 h
  have hlow : ∀ {i : Nat}, i < s.length → 0 ≤ ((s.getD i 0).toNat : Int) ∧ ((s.getD i 0).toNat : Int) < 128 := fun {i} h => by
    have := ha (s.getD i 0) (List.mem_of_getElem? (hbyte h))
    omega
  refine meets_pure (F := fe_strings_Fields) hTh hMx func_strings_Fields rfl call_strings_Fields rfl rfl rfl ?_
  conv => whnf
  refine LoopOK.weak _ _ ?_ ?_ ?_ (LoopOK.ind (fun x : Nat × Int => s.length - x.1) (fun x => [(0, .str s), (3, .int .i64 (cntF s x.1)), (4, .int .i64 (wasF s x.1)), (5, .int .u8 x.2), (6, .int .i64 x.1)]) (fun _ => []) (fun x => x.1 ≤ s.length ∧ 0 ≤ x.2 ∧ x.2 < 128) ?_ (0, 0) ⟨by simp, by simp, by simp⟩)
  · exact ⟨rfl, rfl, rfl, rfl, rfl, trivial⟩
  · trivial
  · rfl
  rintro ⟨i, v⟩ ⟨hi, hv⟩ IH
  dsimp only at hi hv ⊢
  refine LoopOK.round hTh hMx ?_
  conv => whnf
  refine cond_split (fun h => ?_) (fun hz => ?_)
  · have hlt : i < s.length := by simpa using h
    have hb := cntF_bd s i
    conv => whnf
    refine ByteTo.at (hbyte hlt) ?_
    conv => whnf
    refine OpTo.bits rfl rfl rfl (.inr (.inl rfl)) rfl ?_
    conv => whnf
    refine OpTo.spc hTh hS rfl rfl rfl rfl rfl rfl rfl ?_
    conv => whnf
    refine OpTo.convI hTh rfl rfl rfl rfl rfl (c := spI (s.getD i 0)) (IntWalk.i64_in _ (by rcases spI01 (s.getD i 0) with h | h <;> omega)) ?_
    conv => whnf
    refine OpTo.notBits rfl rfl (c := -1 - spI (s.getD i 0)) (by rcases spI01 (s.getD i 0) with h | h <;> rw [h.1] <;> rfl) ?_
    conv => whnf
    refine OpTo.bits rfl rfl rfl (.inl rfl) (c := if wasF s i = 1 ∧ spB (s.getD i 0) = false then 1 else 0) (by rcases spI01 (s.getD i 0) with h | h <;> rcases was01 s i with h' | h' <;> rw [h.1, h.2, h'] <;> rfl) ?_
    conv => whnf
    refine WrapTo.i64 (by split <;> omega) ?_
    conv => whnf
    refine WrapTo.i64 (by omega) ?_
    conv => whnf
    refine LoopOK.weak _ _ ?_ ?_ ?_ (IH (i + 1, bits .or .u8 v (s.getD i 0).toNat) (by simp only; omega) ⟨by simp only; omega, orLow hv (hlow hlt)⟩)
    · exact ⟨rfl, rfl, rfl, rfl, rfl, trivial⟩
    · trivial
    · rfl
  have hge : i = s.length := by simp at hz; omega
  subst hge
  rw [hn]
  conv => whnf
  refine cond_split (fun h => absurd h (by simp; omega)) (fun h => ?_)
  clear IH
  generalize hW : fieldsS s = W at *
  have hWl : W.length ≤ 65536 := by have := cntF_bd s s.length; omega
  conv => whnf
  refine OpTo.mkSlice hTh (F_strings_Fields, 41) rfl rfl rfl rfl rfl rfl rfl (by decide) rfl (by show 16 * W.length ≤ _; omega) (by omega) rfl ?_
  conv => whnf
  have hclo : ∀ (acc : List Str) (a b c : Int), cloChk [] (fldT s W.length a b c) (fldL acc) = true :=
    fun acc a b c => chk_mk ⟨rfl, rfl, rfl, rfl, rfl, trivial⟩ ⟨cloX_row (l := jLr) (e := 0) (sz := 1) (Clo.map fS _), trivial⟩ rfl
  refine LoopOK.weak (fldT s W.length 0 0 (0 : Nat)) (fldL (List.replicate W.length [])) ⟨rfl, rfl, rfl, rfl, rfl, trivial⟩ ⟨congrArg (fun z => some (ABox.row T_string 1 z)) (by rw [List.map_replicate]; rfl), trivial⟩ (hclo _ _ _ _) ?_
  refine LoopOK.join (fun z T1 L1 => z = .exit 2 ∧ SubT (fldT s W.length 0 0 (sk s 0)) T1 ∧ SubL (fldL (List.replicate W.length [])) L1) ?_ ?_
  · exact fld_skip1 G hS s W.length (List.replicate W.length []) 0 0 0 hl (by omega) fun T hT => ⟨rfl, hT, rfl, trivial⟩
  rintro _ T1 L1 ⟨rfl, hT1, hL1⟩
  refine ⟨_, _, Conv.weak (Weak.mk' hT1 hL1 (hclo _ _ _ _)), ?_⟩
  have hsk0 := sk_le s 0 (by omega)
  conv => whnf
  refine LoopOK.weak _ _ ?_ ?_ (hclo _ _ _ _) (LoopOK.ind (fun x : Nat × Nat × Nat × List Str => x.1) (fun x => fldT s W.length x.2.2.2.length x.2.1 x.2.2.1) (fun x => fldL (x.2.2.2 ++ List.replicate (W.length - x.2.2.2.length) []))
    (fun x => s.length - x.2.2.1 ≤ x.1 ∧ x.2.1 ≤ x.2.2.1 ∧ x.2.2.1 ≤ s.length ∧ x.2.2.2 ++ scF s x.1 x.2.1 x.2.2.1 = W) ?_ (s.length, sk s 0, sk s 0, []) ⟨by simp, by simp, hsk0.2, hW⟩)
  · exact ⟨rfl, rfl, rfl, rfl, rfl, trivial⟩
  · exact ⟨rfl, trivial⟩
  rintro ⟨n, f, i, acc⟩ ⟨hf, hfi, hi, hacc⟩ IH
  dsimp only at hf hfi hi hacc ⊢
  have hrl : ((acc ++ List.replicate (W.length - acc.length) ([] : Str)).map cS).length = W.length := by
    have : acc.length ≤ W.length := by rw [← hacc]; simp
    simp; omega
  have hall := str_one (acc ++ List.replicate (W.length - acc.length) ([] : Str))
  refine LoopOK.round hTh hMx ?_
  conv => whnf
  refine cond_split (fun h => ?_) (fun hz => ?_)
  · have hlt : i < s.length := by simpa using h
    obtain ⟨k, rfl⟩ : ∃ k, n = k + 1 := ⟨n - 1, by omega⟩
    simp only [scF] at hacc
    rw [if_pos hlt] at hacc
    conv => whnf
    refine ByteTo.at (hbyte hlt) ?_
    conv => whnf
    refine OpTo.spc hTh hS rfl rfl rfl rfl rfl rfl rfl ?_
    conv => whnf
    refine cond_split (fun h2 => ?_) (fun h2 => ?_)
    · have hsp : spB (s.getD i 0) = false := by
        rcases spI01 (s.getD i 0) with h | h
        · exact h.2
        · rw [h.1] at h2; cases h2
      rw [hsp] at hacc
      conv => whnf
      refine WrapTo.i64 (by omega) ?_
      conv => whnf
      refine LoopOK.weak _ _ ?_ ?_ (hclo _ _ _ _) (IH (k, f, i + 1, acc) (by simp) ⟨by simp only; omega, by simp only; omega, by simp only; omega, hacc⟩)
      · exact ⟨rfl, rfl, rfl, rfl, rfl, trivial⟩
      · exact ⟨rfl, trivial⟩
    have hsp : spB (s.getD i 0) = true := by
      rcases spI01 (s.getD i 0) with h | h
      · rw [h.1] at h2; cases h2
      · exact h.2
    rw [hsp, if_pos rfl] at hacc
    have hal : acc.length < W.length := by rw [← hacc]; simp
    have hacc' : (acc ++ [(s.take i).drop f]) ++ scF s k (sk s (i + 1)) (sk s (i + 1)) = W := by rw [List.append_assoc]; exact hacc
    have hsk1 := sk_le s (i + 1) (by omega)
    conv => whnf
    refine OpTo.cutS hTh f i rfl rfl rfl rfl ⟨_, rfl⟩ ⟨_, rfl⟩ hfi hi ?_
    conv => whnf
    refine OpTo.rowAt hTh rfl rfl rfl rfl rfl rfl rfl hrl rfl (by omega) (by omega) ?_
    conv => whnf
    refine OpTo.rowStore hTh acc.length 0 (((acc ++ [(s.take i).drop f]) ++ List.replicate (W.length - (acc ++ [(s.take i).drop f]).length) []).map cS) rfl rfl rfl rfl hrl rfl rfl hall (get_next hal) (by simp) (by decide) (by rw [← set_next ([] : Str) _ hal, List.map_set]; rfl) ?_
    conv => whnf
    refine WrapTo.i64 (by omega) ?_
    conv => whnf
    refine WrapTo.i64 (by omega) ?_
    conv => whnf
    have hal2 : ((acc ++ [(s.take i).drop f]).length : Int) = (acc.length : Int) + 1 := by simp
    refine LoopOK.weak (fldT s W.length (acc ++ [(s.take i).drop f]).length f ((i + 1 : Nat) : Int)) (fldL ((acc ++ [(s.take i).drop f]) ++ List.replicate (W.length - (acc ++ [(s.take i).drop f]).length) [])) ⟨rfl, rfl, congrArg (AV.int .i64) hal2.symm, rfl, rfl, trivial⟩ ⟨rfl, trivial⟩ (hclo _ _ _ _) ?_
    refine LoopOK.join (fun z T1 L1 => z = .exit 6 ∧ SubT (fldT s W.length (acc ++ [(s.take i).drop f]).length f (sk s (i + 1))) T1 ∧ SubL (fldL ((acc ++ [(s.take i).drop f]) ++ List.replicate (W.length - (acc ++ [(s.take i).drop f]).length) [])) L1) ?_ ?_
    · exact fld_skip2 G hS s W.length _ _ _ (i + 1) hl (by omega) fun T hT => ⟨rfl, hT, rfl, trivial⟩
    rintro _ T2 L2 ⟨rfl, hT2, hL2⟩
    refine ⟨_, _, Conv.weak (Weak.mk' hT2 hL2 (hclo _ _ _ _)), ?_⟩
    conv => whnf
    refine LoopOK.weak _ _ ?_ ?_ (hclo _ _ _ _) (IH (k, sk s (i + 1), sk s (i + 1), acc ++ [(s.take i).drop f]) (by simp) ⟨by simp only; omega, by simp, by simp only; omega, hacc'⟩)
    · exact ⟨rfl, rfl, rfl, rfl, rfl, trivial⟩
    · exact ⟨rfl, trivial⟩
  have hge : s.length ≤ i := by simpa using hz
  rw [scF_end hge] at hacc
  conv => whnf
  refine cond_split (fun h => ?_) (fun h => ?_)
  · have hfl : f < s.length := by simpa using h
    have he : endF s f = [s.drop f] := by unfold endF; rw [if_pos hfl]
    rw [he] at hacc
    have hal : acc.length < W.length := by rw [← hacc]; simp
    conv => whnf
    refine OpTo.cutS hTh f s.length rfl rfl rfl rfl ⟨_, rfl⟩ rfl (by omega) (Nat.le_refl _) ?_
    conv => whnf
    refine OpTo.rowAt hTh rfl rfl rfl rfl rfl rfl rfl hrl rfl (by omega) (by omega) ?_
    conv => whnf
    refine OpTo.rowStore hTh acc.length 0 (((acc ++ [(s.take s.length).drop f]) ++ List.replicate (W.length - (acc ++ [(s.take s.length).drop f]).length) []).map cS) rfl rfl rfl rfl hrl rfl rfl hall (get_next hal) (by simp) (by decide) (by rw [← set_next ([] : Str) _ hal, List.map_set]; rfl) ?_
    have hWe : (acc ++ [(s.take s.length).drop f]) ++ List.replicate (W.length - (acc ++ [(s.take s.length).drop f]).length) [] = W := by
      rw [List.take_length, hacc]; simp
    rw [hWe]
    conv => whnf
    exact Fin.own hTh rfl rfl rfl (by simp) (Clo.map fS _)
  · have he : endF s f = [] := by unfold endF; rw [if_neg (by simpa using h)]
    rw [he, List.append_nil] at hacc
    have hWe : acc ++ List.replicate (W.length - acc.length) [] = W := by rw [hacc]; simp
    conv => whnf
    have hlw : ((acc ++ List.replicate (W.length - acc.length) ([] : Str)).map cS).length = W.length := hrl
    rw [hWe]
    exact Fin.own hTh rfl rfl rfl (by simp) (Clo.map fS _)
theorem m_lex_Reserved (G : GlP) (hS : Spc gl_strings_Fields G) : Res G := fun s => by
  have h1 : fieldsS resT = words := by decide +kernel
  have h2 : cntF resT resT.length = (fieldsS resT).length := by decide +kernel
  have h3 : ∀ c ∈ resT, c.toNat < 128 := by decide +kernel
  have hf := m_strings_Fields G hS resT (by decide +kernel) h3 h2
  rw [h1] at hf
  refine meets_pure (F := fe_lex_Reserved) hTh hMx func_lex_Reserved rfl call_lex_Reserved rfl rfl rfl ?_
  conv => whnf
  refine CallTo.fn (hf) ?_
  conv => whnf
  refine CallTo.fn (m_slices_Contains_string_string G words s (by decide)) ?_
  conv => whnf
  exact Fin.one hTh rfl (congrArg AV.bool List.contains_eq_any_beq.symm) rfl
end Go.Proofs.YtmfolelgdpkkoaaGreatDoor
/- Sheets and worlds, read from memory. -/
set_option linter.unusedVariables false
set_option linter.unusedSimpArgs false
set_option maxRecDepth 10000
namespace Go.Proofs.YtmfolelgdpkkoaaGreatDoor
open Go Go.Ab
section
variable {H : Type} {enc : TypeId × Value → H} {w : World} {bk : DataW H → Nat} {B : Nat}
theorem rdS {t : TypeId} (hb : Bulk H bk B) {y : Ty} (h : Th t = some y := by rfl) (hd : y.d = .string := by rfl) : Rd enc Pg w bk B t cS := rt_str hTh hb h hd
theorem rdI {t : TypeId} (hb : Bulk H bk B) {y : Ty} (h : Th t = some y := by rfl) (hd : y.d = .int .i64 := by rfl) : Rd enc Pg w bk B t cI := rt_int hTh h hd
theorem rdTms (hb : Bulk H bk B) : Rd enc Pg w bk B T_api_Times cTms :=
  (rt_struct hTh hb (k := 3) rfl rfl rfl (rtf_cons hTh (m := 1) (k := 2) (n := 3) rfl rfl rfl rfl (rt_int hTh rfl rfl) (rtf_cons hTh (m := 1) (k := 1) (n := 2) rfl rfl rfl rfl (rt_int hTh rfl rfl) (rtf_cons hTh (m := 1) (k := 0) (n := 1) rfl rfl rfl rfl (rt_int hTh rfl rfl) rdf_nil)))).iso (fun p => (⟨p.1, p.2.1, p.2.2.1⟩ : Tms)) (fun _ => rfl)
theorem rdPth (hb : Bulk H bk B) : Rd enc Pg w bk B T_api_Path cPth :=
  (rt_struct hTh hb (k := 4) rfl rfl rfl (rtf_cons hTh (m := 1) (k := 3) (n := 4) rfl rfl rfl rfl (rt_str hTh hb rfl rfl) (rtf_cons hTh (m := 1) (k := 2) (n := 3) rfl rfl rfl rfl (rt_str hTh hb rfl rfl) (rtf_cons hTh (m := 1) (k := 1) (n := 2) rfl rfl rfl rfl (rt_str hTh hb rfl rfl) (rtf_cons hTh (m := 1) (k := 0) (n := 1) rfl rfl rfl rfl (rt_int hTh rfl rfl) rdf_nil))))).iso (fun p => (⟨p.1, p.2.1, p.2.2.1, p.2.2.2.1⟩ : Pth)) (fun _ => rfl)
theorem rdDor (hb : Bulk H bk B) : Rd enc Pg w bk B T_api_Door cDor :=
  (rt_struct hTh hb (k := 7) rfl rfl rfl (rtf_cons hTh (m := 1) (k := 6) (n := 7) rfl rfl rfl rfl (rt_str hTh hb rfl rfl) (rtf_cons hTh (m := 1) (k := 5) (n := 6) rfl rfl rfl rfl (rt_str hTh hb rfl rfl) (rtf_cons hTh (m := 1) (k := 4) (n := 5) rfl rfl rfl rfl (rt_str hTh hb rfl rfl) (rtf_cons hTh (m := 1) (k := 3) (n := 4) rfl rfl rfl rfl (rt_int hTh rfl rfl) (rtf_cons hTh (m := 3) (k := 0) (n := 3) rfl rfl rfl rfl (rdTms hb) rdf_nil)))))).iso (fun p => (⟨p.1, p.2.1, p.2.2.1, p.2.2.2.1, p.2.2.2.2.1⟩ : Dor)) (fun _ => rfl)
theorem rdRte (hb : Bulk H bk B) : Rd enc Pg w bk B T_api_Route cRte :=
  (rt_struct hTh hb (k := 4) rfl rfl rfl (rtf_cons hTh (m := 1) (k := 3) (n := 4) rfl rfl rfl rfl (rt_str hTh hb rfl rfl) (rtf_cons hTh (m := 1) (k := 2) (n := 3) rfl rfl rfl rfl (rt_slice hTh hb rfl rfl rfl rfl (by decide) (rdS hb) (fun _ => rfl)) (rtf_cons hTh (m := 1) (k := 1) (n := 2) rfl rfl rfl rfl (rt_slice hTh hb rfl rfl rfl rfl (by decide) (rdI hb) (fun _ => rfl)) (rtf_cons hTh (m := 1) (k := 0) (n := 1) rfl rfl rfl rfl (rt_slice hTh hb rfl rfl rfl rfl (by decide) (rdI hb) (fun _ => rfl)) rdf_nil))))).iso (fun p => (⟨p.1, p.2.1, p.2.2.1, p.2.2.2.1⟩ : Rte)) (fun _ => rfl)
theorem rdTrp (hb : Bulk H bk B) : Rd enc Pg w bk B T_api_Trip cTrp :=
  (rt_struct hTh hb (k := 5) rfl rfl rfl (rtf_cons hTh (m := 1) (k := 4) (n := 5) rfl rfl rfl rfl (rt_str hTh hb rfl rfl) (rtf_cons hTh (m := 1) (k := 3) (n := 4) rfl rfl rfl rfl (rt_str hTh hb rfl rfl) (rtf_cons hTh (m := 1) (k := 2) (n := 3) rfl rfl rfl rfl (rt_int hTh rfl rfl) (rtf_cons hTh (m := 1) (k := 1) (n := 2) rfl rfl rfl rfl (rt_int hTh rfl rfl) (rtf_cons hTh (m := 1) (k := 0) (n := 1) rfl rfl rfl rfl (rt_int hTh rfl rfl) rdf_nil)))))).iso (fun p => (⟨p.1, p.2.1, p.2.2.1, p.2.2.2.1, p.2.2.2.2.1⟩ : Trp)) (fun _ => rfl)
theorem rdHzd (hb : Bulk H bk B) : Rd enc Pg w bk B T_api_Hazard cHzd :=
  (rt_struct hTh hb (k := 5) rfl rfl rfl (rtf_cons hTh (m := 1) (k := 4) (n := 5) rfl rfl rfl rfl (rt_str hTh hb rfl rfl) (rtf_cons hTh (m := 1) (k := 3) (n := 4) rfl rfl rfl rfl (rt_str hTh hb rfl rfl) (rtf_cons hTh (m := 3) (k := 0) (n := 3) rfl rfl rfl rfl (rdTms hb) rdf_nil)))).iso (fun p => (⟨p.1, p.2.1, p.2.2.1⟩ : Hzd)) (fun _ => rfl)
theorem rdSht (hb : Bulk H bk B) : Rd enc Pg w bk B T_api_Sheet cSht :=
  (rt_struct hTh hb (k := 7) rfl rfl rfl (rtf_cons hTh (m := 1) (k := 6) (n := 7) rfl rfl rfl rfl (rt_int hTh rfl rfl) (rtf_cons hTh (m := 1) (k := 5) (n := 6) rfl rfl rfl rfl (rt_slice hTh hb rfl rfl rfl rfl (by decide) (rdS hb) (fun _ => rfl)) (rtf_cons hTh (m := 1) (k := 4) (n := 5) rfl rfl rfl rfl (rt_slice hTh hb rfl rfl rfl rfl (by decide) (rdPth hb) (fun _ => rfl)) (rtf_cons hTh (m := 1) (k := 3) (n := 4) rfl rfl rfl rfl (rt_slice hTh hb rfl rfl rfl rfl (by decide) (rdDor hb) (fun _ => rfl)) (rtf_cons hTh (m := 1) (k := 2) (n := 3) rfl rfl rfl rfl (rt_slice hTh hb rfl rfl rfl rfl (by decide) (rdRte hb) (fun _ => rfl)) (rtf_cons hTh (m := 1) (k := 1) (n := 2) rfl rfl rfl rfl (rt_slice hTh hb rfl rfl rfl rfl (by decide) (rdTrp hb) (fun _ => rfl)) (rtf_cons hTh (m := 1) (k := 0) (n := 1) rfl rfl rfl rfl (rt_slice hTh hb rfl rfl rfl rfl (by decide) (rdHzd hb) (fun _ => rfl)) rdf_nil)))))))).iso (fun p => (⟨p.1, p.2.1, p.2.2.1, p.2.2.2.1, p.2.2.2.2.1, p.2.2.2.2.2.1, p.2.2.2.2.2.2.1⟩ : Sht)) (fun _ => rfl)
theorem rdPthO (hb : Bulk H bk B) : Rd enc Pg w bk B T_api_PathOf cPthO :=
  (rt_struct hTh hb (k := 3) rfl rfl rfl (rtf_cons hTh (m := 1) (k := 2) (n := 3) rfl rfl rfl rfl (rt_int hTh rfl rfl) (rtf_cons hTh (m := 1) (k := 1) (n := 2) rfl rfl rfl rfl (rt_int hTh rfl rfl) (rtf_cons hTh (m := 1) (k := 0) (n := 1) rfl rfl rfl rfl (rt_int hTh rfl rfl) rdf_nil)))).iso (fun p => (⟨p.1, p.2.1, p.2.2.1⟩ : PthO)) (fun _ => rfl)
theorem rdDorO (hb : Bulk H bk B) : Rd enc Pg w bk B T_api_DoorOf cDorO :=
  (rt_struct hTh hb (k := 6) rfl rfl rfl (rtf_cons hTh (m := 1) (k := 5) (n := 6) rfl rfl rfl rfl (rt_int hTh rfl rfl) (rtf_cons hTh (m := 1) (k := 4) (n := 5) rfl rfl rfl rfl (rt_int hTh rfl rfl) (rtf_cons hTh (m := 1) (k := 3) (n := 4) rfl rfl rfl rfl (rt_int hTh rfl rfl) (rtf_cons hTh (m := 3) (k := 0) (n := 3) rfl rfl rfl rfl (rdTms hb) rdf_nil))))).iso (fun p => (⟨p.1, p.2.1, p.2.2.1, p.2.2.2.1⟩ : DorO)) (fun _ => rfl)
theorem rdRteO (hb : Bulk H bk B) : Rd enc Pg w bk B T_api_RouteOf cRteO :=
  (rt_struct hTh hb (k := 3) rfl rfl rfl (rtf_cons hTh (m := 1) (k := 2) (n := 3) rfl rfl rfl rfl (rt_slice hTh hb rfl rfl rfl rfl (by decide) (rdI hb) (fun _ => rfl)) (rtf_cons hTh (m := 1) (k := 1) (n := 2) rfl rfl rfl rfl (rt_slice hTh hb rfl rfl rfl rfl (by decide) (rdI hb) (fun _ => rfl)) (rtf_cons hTh (m := 1) (k := 0) (n := 1) rfl rfl rfl rfl (rt_slice hTh hb rfl rfl rfl rfl (by decide) (rdI hb) (fun _ => rfl)) rdf_nil)))).iso (fun p => (⟨p.1, p.2.1, p.2.2.1⟩ : RteO)) (fun _ => rfl)
theorem rdTrpO (hb : Bulk H bk B) : Rd enc Pg w bk B T_api_TripOf cTrpO :=
  (rt_struct hTh hb (k := 4) rfl rfl rfl (rtf_cons hTh (m := 1) (k := 3) (n := 4) rfl rfl rfl rfl (rt_int hTh rfl rfl) (rtf_cons hTh (m := 1) (k := 2) (n := 3) rfl rfl rfl rfl (rt_int hTh rfl rfl) (rtf_cons hTh (m := 1) (k := 1) (n := 2) rfl rfl rfl rfl (rt_int hTh rfl rfl) (rtf_cons hTh (m := 1) (k := 0) (n := 1) rfl rfl rfl rfl (rt_int hTh rfl rfl) rdf_nil))))).iso (fun p => (⟨p.1, p.2.1, p.2.2.1, p.2.2.2.1⟩ : TrpO)) (fun _ => rfl)
theorem rdHzdO (hb : Bulk H bk B) : Rd enc Pg w bk B T_api_HazardOf cHzdO :=
  (rt_struct hTh hb (k := 5) rfl rfl rfl (rtf_cons hTh (m := 1) (k := 4) (n := 5) rfl rfl rfl rfl (rt_bool hTh rfl rfl) (rtf_cons hTh (m := 1) (k := 3) (n := 4) rfl rfl rfl rfl (rt_int hTh rfl rfl) (rtf_cons hTh (m := 3) (k := 0) (n := 3) rfl rfl rfl rfl (rdTms hb) rdf_nil)))).iso (fun p => (⟨p.1, p.2.1, p.2.2.1⟩ : HzdO)) (fun _ => rfl)
theorem rdNms (hb : Bulk H bk B) : Rd enc Pg w bk B T_api_Names cNms :=
  (rt_struct hTh hb (k := 6) rfl rfl rfl (rtf_cons hTh (m := 1) (k := 5) (n := 6) rfl rfl rfl rfl (rt_slice hTh hb rfl rfl rfl rfl (by decide) (rdS hb) (fun _ => rfl)) (rtf_cons hTh (m := 1) (k := 4) (n := 5) rfl rfl rfl rfl (rt_slice hTh hb rfl rfl rfl rfl (by decide) (rdS hb) (fun _ => rfl)) (rtf_cons hTh (m := 1) (k := 3) (n := 4) rfl rfl rfl rfl (rt_slice hTh hb rfl rfl rfl rfl (by decide) (rdS hb) (fun _ => rfl)) (rtf_cons hTh (m := 1) (k := 2) (n := 3) rfl rfl rfl rfl (rt_slice hTh hb rfl rfl rfl rfl (by decide) (rdS hb) (fun _ => rfl)) (rtf_cons hTh (m := 1) (k := 1) (n := 2) rfl rfl rfl rfl (rt_slice hTh hb rfl rfl rfl rfl (by decide) (rdS hb) (fun _ => rfl)) (rtf_cons hTh (m := 1) (k := 0) (n := 1) rfl rfl rfl rfl (rt_slice hTh hb rfl rfl rfl rfl (by decide) (rdS hb) (fun _ => rfl)) rdf_nil))))))).iso (fun p => (⟨p.1, p.2.1, p.2.2.1, p.2.2.2.1, p.2.2.2.2.1, p.2.2.2.2.2.1⟩ : Nms)) (fun _ => rfl)
theorem rdWld (hb : Bulk H bk B) : Rd enc Pg w bk B T_api_World cWld :=
  (rt_struct hTh hb (k := 12) rfl rfl rfl (rtf_cons hTh (m := 1) (k := 11) (n := 12) rfl rfl rfl rfl (rt_int hTh rfl rfl) (rtf_cons hTh (m := 6) (k := 5) (n := 11) rfl rfl rfl rfl (rdNms hb) (rtf_cons hTh (m := 1) (k := 4) (n := 5) rfl rfl rfl rfl (rt_slice hTh hb rfl rfl rfl rfl (by decide) (rdPthO hb) (fun _ => rfl)) (rtf_cons hTh (m := 1) (k := 3) (n := 4) rfl rfl rfl rfl (rt_slice hTh hb rfl rfl rfl rfl (by decide) (rdDorO hb) (fun _ => rfl)) (rtf_cons hTh (m := 1) (k := 2) (n := 3) rfl rfl rfl rfl (rt_slice hTh hb rfl rfl rfl rfl (by decide) (rdRteO hb) (fun _ => rfl)) (rtf_cons hTh (m := 1) (k := 1) (n := 2) rfl rfl rfl rfl (rt_slice hTh hb rfl rfl rfl rfl (by decide) (rdTrpO hb) (fun _ => rfl)) (rtf_cons hTh (m := 1) (k := 0) (n := 1) rfl rfl rfl rfl (rt_slice hTh hb rfl rfl rfl rfl (by decide) (rdHzdO hb) (fun _ => rfl)) rdf_nil)))))))).iso (fun p => (⟨p.1, p.2.1, p.2.2.1, p.2.2.2.1, p.2.2.2.2.1, p.2.2.2.2.2.1, p.2.2.2.2.2.2.1⟩ : Wld)) (fun _ => rfl)
theorem rdRun (hb : Bulk H bk B) : Rd enc Pg w bk B T_api_Run cRun :=
  (rt_struct hTh hb (k := 4) rfl rfl rfl (rtf_cons hTh (m := 1) (k := 3) (n := 4) rfl rfl rfl rfl (rt_int hTh rfl rfl) (rtf_cons hTh (m := 1) (k := 2) (n := 3) rfl rfl rfl rfl (rt_int hTh rfl rfl) (rtf_cons hTh (m := 1) (k := 1) (n := 2) rfl rfl rfl rfl (rt_slice hTh hb rfl rfl rfl rfl (by decide) (rdI hb) (fun _ => rfl)) (rtf_cons hTh (m := 1) (k := 0) (n := 1) rfl rfl rfl rfl (rt_slice hTh hb rfl rfl rfl rfl (by decide) (rdI hb) (fun _ => rfl)) rdf_nil))))).iso (fun p => (⟨p.1, p.2.1, p.2.2.1, p.2.2.2.1⟩ : Rn)) (fun _ => rfl)
theorem no_Run {B : Nat} {r : Rn} (h : smL B (cRun r)) : r.no ≤ 9223372036854775807 := by
  simp only [cRun, smL, sm] at h
  exact (wf64 h.2.1).2
theorem int_le {B : Nat} {n : Int} (h : sm B (.int .i64 n)) : n ≤ 9223372036854775807 := by
  simp only [sm] at h
  exact (wf64 h).2
end
end Go.Proofs.YtmfolelgdpkkoaaGreatDoor
/- What the rows of this program's laws share: the table of spaces; the strings of what was read. -/
set_option linter.unusedVariables false
set_option linter.unusedSimpArgs false
set_option maxRecDepth 100000
namespace Go.Ab
def spZ : List Int := (List.range 256).map fun i => spI (UInt8.ofNat i)
theorem spZ_at {i : Nat} (h : i < 256) : spZ.getD i 0 = spI (UInt8.ofNat i) := by simp [spZ, List.getD, h]
/-- The table of spaces lies at this variable. -/
def spG (g : Nat) : GlP where
  ng := g + 1
  holds w := ∀ i, i < 256 → w.cell? ⟨g, i, none⟩ = some (.int .u8 (spI (UInt8.ofNat i)))
  stable w w' h hw i hi := by
    rw [← hw i hi]
    unfold World.cell?
    rw [h g (Nat.lt_succ_self g)]
theorem spG_spc (g : Nat) : Spc g (spG g) where
  lt := Nat.lt_succ_self g
  tab w O hw := CvC.of_get fun j av hj => by
    obtain ⟨hj', rfl⟩ := List.getElem?_eq_some_iff.1 hj
    have hj2 : j < 256 := by simpa [tabA] using hj'
    refine ⟨.int .u8 (spI (UInt8.ofNat j)), ?_, ?_, ?_⟩
    · have := hw j hj2
      simpa using this
    · simp [tabA, Cv]
    · simp [tabA, AV.one]
theorem spG_of {P : Program} {W : World} {g : Nat} (hg : P.globalNamed "strings.asciiSpace" = some g) (h : Lib.TabIs P W "strings.asciiSpace" .u8 spZ) : (spG g).holds W := fun i hi => by
  rw [← spZ_at hi]
  exact h.cell hg i (by simpa [spZ] using hi)
theorem spG_lt {W : World} {g : Nat} (h : (spG g).holds W) : (spG g).ng ≤ W.heap.size := by
  have := h 0 (by decide)
  unfold World.cell? at this
  split at this
  · rename_i hh
    exact (Array.getElem?_eq_some_iff.1 hh).1
  · cases this
/-! The strings of what was read. -/
theorem smR_str {B : Nat} {l : List Str} (h : smR B (l.map cS)) : ∀ s ∈ l, s.length ≤ B := fun s hs => by
  have := smR_get h (cS s) (List.mem_map_of_mem hs)
  simp only [cS, smL, sm] at this
  exact this.1
theorem strs_Sht {B : Nat} {x : Sht} (h : smL B (cSht x)) : ∀ s ∈ namesL x, s.length ≤ B := by
  simp only [cSht, smL, sm] at h
  obtain ⟨_, ⟨_, h1⟩, ⟨_, h2⟩, ⟨_, h3⟩, ⟨_, h4⟩, ⟨_, h5⟩, ⟨_, h6⟩, _⟩ := h
  intro s hs
  simp only [namesL, List.mem_append, List.mem_flatMap] at hs
  rcases hs with ((((hs | ⟨q, hq, hs⟩) | ⟨q, hq, hs⟩) | ⟨q, hq, hs⟩) | ⟨q, hq, hs⟩) | ⟨q, hq, hs⟩
  · exact smR_str h1 s hs
  · have := smR_get h2 (cPth q) (List.mem_map_of_mem hq)
    simp only [cPth, smL, sm] at this
    simp only [nmPth, List.mem_cons, List.not_mem_nil, or_false] at hs
    rcases hs with rfl | rfl | rfl
    · exact this.1
    · exact this.2.1
    · exact this.2.2.1
  · have := smR_get h3 (cDor q) (List.mem_map_of_mem hq)
    simp only [cDor, smL, sm] at this
    simp only [nmDor, List.mem_cons, List.not_mem_nil, or_false] at hs
    rcases hs with rfl | rfl | rfl
    · exact this.1
    · exact this.2.1
    · exact this.2.2.1
  · have := smR_get h4 (cRte q) (List.mem_map_of_mem hq)
    simp only [cRte, smL, sm] at this
    simp only [nmRte, List.mem_cons] at hs
    rcases hs with rfl | hs
    · exact this.1
    · exact smR_str this.2.1.2 s hs
  · have := smR_get h5 (cTrp q) (List.mem_map_of_mem hq)
    simp only [cTrp, smL, sm] at this
    simp only [nmTrp, List.mem_cons, List.not_mem_nil, or_false] at hs
    rcases hs with rfl | rfl
    · exact this.1
    · exact this.2.1
  · have := smR_get h6 (cHzd q) (List.mem_map_of_mem hq)
    simp only [cHzd, smL, sm] at this
    simp only [nmHzd, List.mem_cons, List.not_mem_nil, or_false] at hs
    rcases hs with rfl | rfl
    · exact this.1
    · exact this.2.1
theorem strs_Wld {B : Nat} {w : Wld} (h : smL B (cWld w)) : ∀ l ∈ nmK w.names, ∀ s ∈ l, s.length ≤ B := by
  simp only [cWld, smL, sm] at h
  obtain ⟨_, ⟨_, h1⟩, ⟨_, h2⟩, ⟨_, h3⟩, ⟨_, h4⟩, ⟨_, h5⟩, ⟨_, h6⟩, _⟩ := h
  intro l hl s hs
  simp only [nmK, List.mem_cons, List.not_mem_nil, or_false] at hl
  rcases hl with rfl | rfl | rfl | rfl | rfl | rfl
  · exact smR_str h1 s hs
  · exact smR_str h2 s hs
  · exact smR_str h3 s hs
  · exact smR_str h4 s hs
  · exact smR_str h5 s hs
  · exact smR_str h6 s hs
end Go.Ab
namespace Go.Proofs.YtmfolelgdpkkoaaGreatDoor
open Go Go.Ab Go.ChangeShapes Go.WideShapes Go.ChangeAt Go.RowKit
theorem own : ownKnob Tryz.prog.godebug = none := by kernel_rfl
theorem gTab : Tryz.prog.globalNamed "strings.asciiSpace" = some gl_strings_Fields := by kernel_rfl
theorem tab_data : (Rows.laid_strings_asciiSpace : DataW Unit) = Lib.tabData .u8 spZ := by kernel_rfl
end Go.Proofs.YtmfolelgdpkkoaaGreatDoor
