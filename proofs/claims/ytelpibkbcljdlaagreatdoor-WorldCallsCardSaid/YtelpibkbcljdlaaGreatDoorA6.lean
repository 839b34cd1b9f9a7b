/- The plain data of the document, how each lies in cells, and when they are the same. -/
import Derived.Test.YtelpibkbcljdlaaGreatDoorA5
set_option linter.unusedVariables false
set_option linter.unusedSimpArgs false
namespace Go.Ab
structure Tms where
  fr : Int
  ev : Int
  ln : Int
  deriving DecidableEq
structure Wn where
  fr : Int
  to : Int
  deriving DecidableEq
structure Pth where
  name : Str
  a : Str
  b : Str
  ln : Int
  deriving DecidableEq
structure Dor where
  name : Str
  a : Str
  b : Str
  ln : Int
  tm : Tms
  deriving DecidableEq
structure Rte where
  name : Str
  stops : List Str
  rides : List Int
  stays : List Int
  deriving DecidableEq
structure Trp where
  name : Str
  route : Str
  fr : Int
  ev : Int
  un : Int
  deriving DecidableEq
structure Hzd where
  name : Str
  on : Str
  tm : Tms
  deriving DecidableEq
structure Sht where
  hor : Int
  stops : List Str
  paths : List Pth
  doors : List Dor
  routes : List Rte
  trips : List Trp
  hazards : List Hzd
  deriving DecidableEq
structure PthO where
  a : Int
  b : Int
  ln : Int
  deriving DecidableEq
structure DorO where
  a : Int
  b : Int
  ln : Int
  tm : Tms
  deriving DecidableEq
structure RteO where
  stops : List Int
  rides : List Int
  stays : List Int
  deriving DecidableEq
structure TrpO where
  route : Int
  fr : Int
  ev : Int
  un : Int
  deriving DecidableEq
structure HzdO where
  stop : Bool
  on : Int
  tm : Tms
  deriving DecidableEq
structure Nms where
  stops : List Str
  paths : List Str
  doors : List Str
  routes : List Str
  trips : List Str
  hazards : List Str
  deriving DecidableEq
structure Wld where
  hor : Int
  names : Nms
  paths : List PthO
  doors : List DorO
  routes : List RteO
  trips : List TrpO
  hazards : List HzdO
  deriving DecidableEq
structure Wrg where
  err : Int
  kind : Int
  at_ : Int
  deriving DecidableEq
structure Rn where
  trip : Int
  no : Int
  arr : List Int
  dep : List Int
  deriving DecidableEq
structure Idn where
  trip : Int
  no : Int
  deriving DecidableEq
structure Lte where
  trip : Int
  no : Int
  pos : Int
  by_ : Int
  deriving DecidableEq

def cS (s : Str) : List AV := [.str s]
def cI (n : Int) : List AV := [.int .i64 n]
def cTms (t : Tms) : List AV := [.int .i64 t.fr, .int .i64 t.ev, .int .i64 t.ln]
def cWn (t : Wn) : List AV := [.int .i64 t.fr, .int .i64 t.to]
def cPth (p : Pth) : List AV := [.str p.name, .str p.a, .str p.b, .int .i64 p.ln]
def cDor (p : Dor) : List AV := [.str p.name, .str p.a, .str p.b, .int .i64 p.ln, .int .i64 p.tm.fr, .int .i64 p.tm.ev, .int .i64 p.tm.ln]
def cRte (r : Rte) : List AV := [.str r.name, .lst 1 (r.stops.map cS), .lst 1 (r.rides.map cI), .lst 1 (r.stays.map cI)]
def cTrp (t : Trp) : List AV := [.str t.name, .str t.route, .int .i64 t.fr, .int .i64 t.ev, .int .i64 t.un]
def cHzd (h : Hzd) : List AV := [.str h.name, .str h.on, .int .i64 h.tm.fr, .int .i64 h.tm.ev, .int .i64 h.tm.ln]
def cSht (x : Sht) : List AV := [.int .i64 x.hor, .lst 1 (x.stops.map cS), .lst 4 (x.paths.map cPth), .lst 7 (x.doors.map cDor), .lst 4 (x.routes.map cRte), .lst 5 (x.trips.map cTrp), .lst 5 (x.hazards.map cHzd)]
def cPthO (p : PthO) : List AV := [.int .i64 p.a, .int .i64 p.b, .int .i64 p.ln]
def cDorO (p : DorO) : List AV := [.int .i64 p.a, .int .i64 p.b, .int .i64 p.ln, .int .i64 p.tm.fr, .int .i64 p.tm.ev, .int .i64 p.tm.ln]
def cRteO (r : RteO) : List AV := [.lst 1 (r.stops.map cI), .lst 1 (r.rides.map cI), .lst 1 (r.stays.map cI)]
def cTrpO (t : TrpO) : List AV := [.int .i64 t.route, .int .i64 t.fr, .int .i64 t.ev, .int .i64 t.un]
def cHzdO (h : HzdO) : List AV := [.bool h.stop, .int .i64 h.on, .int .i64 h.tm.fr, .int .i64 h.tm.ev, .int .i64 h.tm.ln]
def cNms (n : Nms) : List AV := [.lst 1 (n.stops.map cS), .lst 1 (n.paths.map cS), .lst 1 (n.doors.map cS), .lst 1 (n.routes.map cS), .lst 1 (n.trips.map cS), .lst 1 (n.hazards.map cS)]
def cWld (w : Wld) : List AV := [.int .i64 w.hor, .lst 1 (w.names.stops.map cS), .lst 1 (w.names.paths.map cS), .lst 1 (w.names.doors.map cS), .lst 1 (w.names.routes.map cS), .lst 1 (w.names.trips.map cS), .lst 1 (w.names.hazards.map cS),
  .lst 3 (w.paths.map cPthO), .lst 6 (w.doors.map cDorO), .lst 3 (w.routes.map cRteO), .lst 4 (w.trips.map cTrpO), .lst 5 (w.hazards.map cHzdO)]
def cWrg (w : Wrg) : List AV := [.int .i64 w.err, .int .i64 w.kind, .int .i64 w.at_]
def cRun (r : Rn) : List AV := [.int .i64 r.trip, .int .i64 r.no, .lst 1 (r.arr.map cI), .lst 1 (r.dep.map cI)]
def cIdn (r : Idn) : List AV := [.int .i64 r.trip, .int .i64 r.no]
def cLte (r : Lte) : List AV := [.int .i64 r.trip, .int .i64 r.no, .int .i64 r.pos, .int .i64 r.by_]

theorem fS (s : Str) : cloL (fun _ => false) (cS s) = true := rfl
theorem fI (s : Int) : cloL (fun _ => false) (cI s) = true := rfl
theorem fTms (s : Tms) : cloL (fun _ => false) (cTms s) = true := rfl
theorem fWn (s : Wn) : cloL (fun _ => false) (cWn s) = true := rfl
theorem fPth (s : Pth) : cloL (fun _ => false) (cPth s) = true := rfl
theorem fDor (s : Dor) : cloL (fun _ => false) (cDor s) = true := rfl
theorem fRte (s : Rte) : cloL (fun _ => false) (cRte s) = true := rfl
theorem fTrp (s : Trp) : cloL (fun _ => false) (cTrp s) = true := rfl
theorem fHzd (s : Hzd) : cloL (fun _ => false) (cHzd s) = true := rfl
theorem fPthO (s : PthO) : cloL (fun _ => false) (cPthO s) = true := rfl
theorem fDorO (s : DorO) : cloL (fun _ => false) (cDorO s) = true := rfl
theorem fRteO (s : RteO) : cloL (fun _ => false) (cRteO s) = true := rfl
theorem fTrpO (s : TrpO) : cloL (fun _ => false) (cTrpO s) = true := rfl
theorem fHzdO (s : HzdO) : cloL (fun _ => false) (cHzdO s) = true := rfl
theorem fRun (s : Rn) : cloL (fun _ => false) (cRun s) = true := rfl
theorem fIdn (s : Idn) : cloL (fun _ => false) (cIdn s) = true := rfl
theorem fLte (s : Lte) : cloL (fun _ => false) (cLte s) = true := rfl

theorem qTms (p q : Tms) : eqCells (cTms p) (cTms q) = some (decide (p = q)) := by
  obtain ⟨a1, a2, a3⟩ := p
  obtain ⟨b1, b2, b3⟩ := q
  simp only [cTms, eqCells, eqC1, decide_true, cond_true, Tms.mk.injEq, Bool.decide_and, beq_dec, Bool.and_true]
theorem qWn (p q : Wn) : eqCells (cWn p) (cWn q) = some (decide (p = q)) := by
  obtain ⟨a1, a2⟩ := p
  obtain ⟨b1, b2⟩ := q
  simp only [cWn, eqCells, eqC1, decide_true, cond_true, Wn.mk.injEq, Bool.decide_and, beq_dec, Bool.and_true]
theorem qPth (p q : Pth) : eqCells (cPth p) (cPth q) = some (decide (p = q)) := by
  obtain ⟨a1, a2, a3, a4⟩ := p
  obtain ⟨b1, b2, b3, b4⟩ := q
  simp only [cPth, eqCells, eqC1, decide_true, cond_true, Pth.mk.injEq, Bool.decide_and, beq_dec, Bool.and_true]
theorem qDor (p q : Dor) : eqCells (cDor p) (cDor q) = some (decide (p = q)) := by
  obtain ⟨a1, a2, a3, a4, a5, a6, a7⟩ := p
  obtain ⟨b1, b2, b3, b4, b5, b6, b7⟩ := q
  simp only [cDor, eqCells, eqC1, decide_true, cond_true, Dor.mk.injEq, Tms.mk.injEq, Bool.decide_and, beq_dec, Bool.and_true]
theorem qTrp (p q : Trp) : eqCells (cTrp p) (cTrp q) = some (decide (p = q)) := by
  obtain ⟨a1, a2, a3, a4, a5⟩ := p
  obtain ⟨b1, b2, b3, b4, b5⟩ := q
  simp only [cTrp, eqCells, eqC1, decide_true, cond_true, Trp.mk.injEq, Bool.decide_and, beq_dec, Bool.and_true]
theorem qHzd (p q : Hzd) : eqCells (cHzd p) (cHzd q) = some (decide (p = q)) := by
  obtain ⟨a1, a2, a3, a4, a5⟩ := p
  obtain ⟨b1, b2, b3, b4, b5⟩ := q
  simp only [cHzd, eqCells, eqC1, decide_true, cond_true, Hzd.mk.injEq, Tms.mk.injEq, Bool.decide_and, beq_dec, Bool.and_true]
theorem qPthO (p q : PthO) : eqCells (cPthO p) (cPthO q) = some (decide (p = q)) := by
  obtain ⟨a1, a2, a3⟩ := p
  obtain ⟨b1, b2, b3⟩ := q
  simp only [cPthO, eqCells, eqC1, decide_true, cond_true, PthO.mk.injEq, Bool.decide_and, beq_dec, Bool.and_true]
theorem qDorO (p q : DorO) : eqCells (cDorO p) (cDorO q) = some (decide (p = q)) := by
  obtain ⟨a1, a2, a3, a4, a5, a6⟩ := p
  obtain ⟨b1, b2, b3, b4, b5, b6⟩ := q
  simp only [cDorO, eqCells, eqC1, decide_true, cond_true, DorO.mk.injEq, Tms.mk.injEq, Bool.decide_and, beq_dec, Bool.and_true]
theorem qTrpO (p q : TrpO) : eqCells (cTrpO p) (cTrpO q) = some (decide (p = q)) := by
  obtain ⟨a1, a2, a3, a4⟩ := p
  obtain ⟨b1, b2, b3, b4⟩ := q
  simp only [cTrpO, eqCells, eqC1, decide_true, cond_true, TrpO.mk.injEq, Bool.decide_and, beq_dec, Bool.and_true]
theorem qHzdO (p q : HzdO) : eqCells (cHzdO p) (cHzdO q) = some (decide (p = q)) := by
  obtain ⟨a1, a2, a3, a4, a5⟩ := p
  obtain ⟨b1, b2, b3, b4, b5⟩ := q
  simp only [cHzdO, eqCells, eqC1, decide_true, cond_true, HzdO.mk.injEq, Tms.mk.injEq, Bool.decide_and, beq_dec, Bool.and_true]
theorem qWrg (p q : Wrg) : eqCells (cWrg p) (cWrg q) = some (decide (p = q)) := by
  obtain ⟨a1, a2, a3⟩ := p
  obtain ⟨b1, b2, b3⟩ := q
  simp only [cWrg, eqCells, eqC1, decide_true, cond_true, Wrg.mk.injEq, Bool.decide_and, beq_dec, Bool.and_true]
theorem qIdn (p q : Idn) : eqCells (cIdn p) (cIdn q) = some (decide (p = q)) := by
  obtain ⟨a1, a2⟩ := p
  obtain ⟨b1, b2⟩ := q
  simp only [cIdn, eqCells, eqC1, decide_true, cond_true, Idn.mk.injEq, Bool.decide_and, beq_dec, Bool.and_true]
theorem qLte (p q : Lte) : eqCells (cLte p) (cLte q) = some (decide (p = q)) := by
  obtain ⟨a1, a2, a3, a4⟩ := p
  obtain ⟨b1, b2, b3, b4⟩ := q
  simp only [cLte, eqCells, eqC1, decide_true, cond_true, Lte.mk.injEq, Bool.decide_and, beq_dec, Bool.and_true]

/-- Where the first thing of a list is that is so; -1. -/
def fidx {α : Type} (p : α → Bool) (xs : List α) : Int := match xs.findIdx? p with
  | some i => i
  | none => -1
theorem fidx_hit {α : Type} {p : α → Bool} {xs : List α} {i : Nat} (h : i < xs.length) (he : p xs[i] = true) (hb : ∀ x ∈ xs.take i, p x = false) : fidx p xs = i := by
  have : xs.findIdx? p = some i := by
    rw [List.findIdx?_eq_some_iff_getElem]
    refine ⟨h, he, fun j hj => ?_⟩
    have := hb xs[j] (by rw [List.mem_take_iff_getElem]; exact ⟨j, by omega, rfl⟩)
    simp [this]
  simp [fidx, this]
theorem fidx_miss {α : Type} {p : α → Bool} {xs : List α} (hb : ∀ x ∈ xs, p x = false) : fidx p xs = -1 := by
  have : xs.findIdx? p = none := by
    rw [List.findIdx?_eq_none_iff]
    exact hb
  simp [fidx, this]
theorem none_succ {α : Type} {p : α → Bool} {xs : List α} {i : Nat} (hb : ∀ x ∈ xs.take i, p x = false) (h : i < xs.length) (he : p xs[i] = false) : ∀ x ∈ xs.take (i + 1), p x = false := by
  intro x hx
  rw [List.take_succ_eq_append_getElem h, List.mem_append, List.mem_singleton] at hx
  rcases hx with hx | rfl
  · exact hb x hx
  · exact he
theorem none_all {α : Type} {p : α → Bool} {xs : List α} {i : Nat} (hb : ∀ x ∈ xs.take i, p x = false) (h : xs.length ≤ i) : ∀ x ∈ xs, p x = false := by
  rwa [List.take_of_length_le h] at hb
theorem fidx_geq {α : Type} (p : α → Bool) (xs : List α) : decide (0 ≤ fidx p xs) = xs.any p := by
  unfold fidx
  cases h : xs.findIdx? p with
  | none =>
    rw [List.findIdx?_eq_none_iff] at h
    simp
    exact h
  | some i =>
    rw [List.findIdx?_eq_some_iff_getElem] at h
    obtain ⟨h1, h2, _⟩ := h
    simp
    exact ⟨xs[i], List.getElem_mem _, h2⟩
end Go.Ab
/- The contracts of the generic functions, type by type: copies, comparisons, searches. Written by a program of ours. -/
set_option linter.unusedVariables false
set_option maxRecDepth 10000
namespace Go.Proofs.YtelpibkbcljdlaaGreatDoor
open Go Go.Ab
theorem m_kit_Own_string (G : GlP) (xs : List Str) (hl : xs.length ≤ 4294967296) : Meets Pg G F_kit_Own_string [.lst 1 (xs.map cS)] [] (.lst 1 (xs.map cS)) [] := by
  refine meets_pure (F := fe_kit_Own_string) hTh hMx func_kit_Own_string rfl call_kit_Own_string rfl rfl rfl ?_
  conv => whnf
  refine ⟨by simpa using hl, ?_⟩
  conv => whnf
  exact Fin.own hTh rfl rfl rfl rfl (Clo.map fS xs)
theorem m_slices_Clone_string_string (G : GlP) (xs : List Str) (hl : xs.length ≤ 4294967296) : Meets Pg G F_slices_Clone_string_string [.lst 1 (xs.map cS)] [] (.lst 1 (xs.map cS)) [] := by
  refine meets_pure (F := fe_slices_Clone_string_string) hTh hMx func_slices_Clone_string_string rfl call_slices_Clone_string_string rfl rfl rfl ?_
  by_cases hx : xs = []
  · subst hx
    conv => whnf
    refine OpTo.nilS hTh rfl (.inl rfl) rfl rfl trivial ?_
    conv => whnf
    refine ⟨?_, ?_⟩
    · conv => whnf
      exact Fin.emp hTh rfl rfl
    · conv => whnf
      refine ⟨hl, ?_⟩
      conv => whnf
      exact Fin.own hTh rfl rfl rfl rfl Clo.nil
  · conv => whnf
    refine OpTo.nilL hTh (fun e => hx (by simpa using e)) rfl (.inl rfl) rfl rfl rfl ?_
    conv => whnf
    refine ⟨by simpa using hl, ?_⟩
    conv => whnf
    exact Fin.own hTh rfl rfl rfl rfl (Clo.map fS xs)
theorem m_kit_Same_string (G : GlP) (xs ys : List Str) (hl : xs.length ≤ 4294967296) : Meets Pg G F_kit_Same_string [.lst 1 (xs.map cS), .lst 1 (ys.map cS)] [] (.bool (decide (xs = ys))) [] := by
  refine meets_pure (F := fe_kit_Same_string) hTh hMx func_kit_Same_string rfl call_kit_Same_string rfl rfl rfl ?_
  conv => whnf
  refine cond_split (fun h => ?_) (fun h => ?_)
  · conv => whnf
    exact Fin.one hTh rfl (AV.no (ne_of_dec h)) rfl
  have hlen := len_of_dec h
  conv => whnf
  refine LoopOK.weak _ _ ?_ ?_ ?_ (LoopOK.ind (fun i : Nat => xs.length - i) (fun i => [(0, .lst 1 (xs.map cS)), (1, .lst 1 (ys.map cS)), (5, .int .i64 i)]) (fun _ => []) (fun i => i ≤ xs.length ∧ xs.take i = ys.take i) ?_ 0 ⟨by omega, by simp⟩)
  · exact ⟨rfl, rfl, rfl, trivial⟩
  · trivial
  · rfl
  intro i ⟨hi, hb⟩ IH
  refine LoopOK.round hTh hMx ?_
  conv => whnf
  refine cond_split (fun h => ?_) (fun h => ?_)
  · have hlt := lt_of_dec h
    conv => whnf
    refine IndexTo.at (map_at cS hlt) ?_
    conv => whnf
    refine IndexTo.at (map_at cS (show i < ys.length by omega)) ?_
    conv => whnf
    refine ⟨by kernel_rfl, ?_⟩
    conv => whnf
    refine cond_split (fun he => ?_) (fun he => ?_)
    · conv => whnf
      exact Fin.one hTh rfl (AV.no (ne_of_get hlt (by omega) (by simpa using he))) rfl
    · conv => whnf
      refine WrapTo.i64 (by omega) ?_
      conv => whnf
      refine LoopOK.weak _ _ ?_ ?_ ?_ (IH (i + 1) (by omega) ⟨by omega, take_eq_succ hb hlt (by omega) (by simpa using he)⟩)
      · exact ⟨rfl, rfl, rfl, trivial⟩
      · trivial
      · rfl
  · have hge := le_of_dec h
    conv => whnf
    exact Fin.one hTh rfl (AV.yes (take_eq_all hb hge hlen)) rfl
theorem m_slices_Equal_string_string (G : GlP) (xs ys : List Str) (hl : xs.length ≤ 4294967296) : Meets Pg G F_slices_Equal_string_string [.lst 1 (xs.map cS), .lst 1 (ys.map cS)] [] (.bool (decide (xs = ys))) [] := by
  refine meets_pure (F := fe_slices_Equal_string_string) hTh hMx func_slices_Equal_string_string rfl call_slices_Equal_string_string rfl rfl rfl ?_
  conv => whnf
  refine cond_split (fun h => ?_) (fun h => ?_)
  · conv => whnf
    exact Fin.one hTh rfl (AV.no (ne_of_dec h)) rfl
  have hlen := len_of_dec h
  conv => whnf
  refine LoopOK.weak _ _ ?_ ?_ ?_ (LoopOK.ind (fun i : Nat => xs.length - i) (fun i => [(0, .lst 1 (xs.map cS)), (1, .lst 1 (ys.map cS)), (11, .lst 1 (xs.map cS)), (12, .int .i64 (xs.map cS).length), (13, .int .i64 i)]) (fun _ => []) (fun i => i ≤ xs.length ∧ xs.take i = ys.take i) ?_ 0 ⟨by omega, by simp⟩)
  · exact ⟨rfl, rfl, rfl, rfl, rfl, trivial⟩
  · trivial
  · rfl
  intro i ⟨hi, hb⟩ IH
  refine LoopOK.round hTh hMx ?_
  conv => whnf
  refine cond_split (fun h => ?_) (fun h => ?_)
  · have hlt := lt_of_dec h
    conv => whnf
    refine IndexTo.at (map_at cS hlt) ?_
    conv => whnf
    refine IndexTo.at (map_at cS (show i < ys.length by omega)) ?_
    conv => whnf
    refine ⟨by kernel_rfl, ?_⟩
    conv => whnf
    refine cond_split (fun he => ?_) (fun he => ?_)
    · conv => whnf
      exact Fin.one hTh rfl (AV.no (ne_of_get hlt (by omega) (by simpa using he))) rfl
    · conv => whnf
      refine WrapTo.i64 (by omega) ?_
      conv => whnf
      refine LoopOK.weak _ _ ?_ ?_ ?_ (IH (i + 1) (by omega) ⟨by omega, take_eq_succ hb hlt (by omega) (by simpa using he)⟩)
      · exact ⟨rfl, rfl, rfl, rfl, rfl, trivial⟩
      · trivial
      · rfl
  · have hge := le_of_dec h
    conv => whnf
    exact Fin.one hTh rfl (AV.yes (take_eq_all hb hge hlen)) rfl
theorem m_slices_Index_string_string (G : GlP) (xs : List Str) (n : Str) (hl : xs.length ≤ 4294967296) : Meets Pg G F_slices_Index_string_string [.lst 1 (xs.map cS), .str n] [] (.int .i64 (fidx (fun x => n == x) xs)) [] := by
  refine meets_pure (F := fe_slices_Index_string_string) hTh hMx func_slices_Index_string_string rfl call_slices_Index_string_string rfl rfl rfl ?_
  conv => whnf
  refine LoopOK.weak _ _ ?_ ?_ ?_ (LoopOK.ind (fun i : Nat => xs.length - i) (fun i => [(0, .lst 1 (xs.map cS)), (1, .str n), (7, .int .i64 (xs.map cS).length), (8, .int .i64 i)]) (fun _ => []) (fun i => i ≤ xs.length ∧ ∀ x ∈ xs.take i, (fun x => n == x) x = false) ?_ 0 ⟨by omega, by simp⟩)
  · exact ⟨rfl, rfl, rfl, rfl, trivial⟩
  · trivial
  · rfl
  intro i ⟨hi, hb⟩ IH
  refine LoopOK.round hTh hMx ?_
  conv => whnf
  refine cond_split (fun h => ?_) (fun h => ?_)
  · have hlt := lt_of_dec h
    conv => whnf
    refine IndexTo.at (map_at cS hlt) ?_
    conv => whnf
    refine cond_split (fun he => ?_) (fun he => ?_)
    · conv => whnf
      exact Fin.one hTh rfl (congrArg (AV.int .i64) (fidx_hit hlt he hb).symm) rfl
    · conv => whnf
      refine WrapTo.i64 (by omega) ?_
      conv => whnf
      refine LoopOK.weak _ _ ?_ ?_ ?_ (IH (i + 1) (by omega) ⟨by omega, none_succ hb hlt he⟩)
      · exact ⟨rfl, rfl, rfl, rfl, trivial⟩
      · trivial
      · rfl
  · have hge := le_of_dec h
    conv => whnf
    exact Fin.one hTh rfl (congrArg (AV.int .i64) (fidx_miss (none_all hb hge)).symm) rfl
theorem m_slices_Contains_string_string (G : GlP) (xs : List Str) (n : Str) (hl : xs.length ≤ 4294967296) : Meets Pg G F_slices_Contains_string_string [.lst 1 (xs.map cS), .str n] [] (.bool (xs.any (fun x => n == x))) [] := by
  refine meets_pure (F := fe_slices_Contains_string_string) hTh hMx func_slices_Contains_string_string rfl call_slices_Contains_string_string rfl rfl rfl ?_
  conv => whnf
  refine CallTo.fn (m_slices_Index_string_string G xs n hl) ?_
  conv => whnf
  exact Fin.one hTh rfl (congrArg AV.bool (fidx_geq _ _)) rfl
theorem m_slices_IndexFunc_string_string (G : GlP) (xs : List Str) (fv : AV) (p : Str → Bool) (hf : ∀ x, x ∈ xs → MeetsV Pg G fv [.str x] [] (.bool (p x)) []) (hfv : cloB (fun _ => false) fv = true) (hl : xs.length ≤ 4294967296) : Meets Pg G F_slices_IndexFunc_string_string [.lst 1 (xs.map cS), fv] [] (.int .i64 (fidx p xs)) [] := by
  refine meets_pure (F := fe_slices_IndexFunc_string_string) hTh hMx func_slices_IndexFunc_string_string rfl call_slices_IndexFunc_string_string rfl (clo_args hfv) rfl ?_
  conv => whnf
  refine LoopOK.weak _ _ ?_ ?_ ?_ (LoopOK.ind (fun i : Nat => xs.length - i) (fun i => [(0, .lst 1 (xs.map cS)), (1, fv), (7, .int .i64 (xs.map cS).length), (8, .int .i64 i)]) (fun _ => []) (fun i => i ≤ xs.length ∧ ∀ x ∈ xs.take i, p x = false) ?_ 0 ⟨by omega, by simp⟩)
  · exact ⟨rfl, rfl, rfl, rfl, trivial⟩
  · trivial
  · exact clo_fv hfv
  intro i ⟨hi, hb⟩ IH
  refine LoopOK.round hTh hMx ?_
  conv => whnf
  refine cond_split (fun h => ?_) (fun h => ?_)
  · have hlt := lt_of_dec h
    conv => whnf
    refine IndexTo.at (map_at cS hlt) ?_
    conv => whnf
    refine CallTo.pure (hf _ (List.getElem_mem hlt)) ?_
    conv => whnf
    refine cond_split (fun he => ?_) (fun he => ?_)
    · conv => whnf
      exact Fin.one hTh rfl (congrArg (AV.int .i64) (fidx_hit hlt he hb).symm) rfl
    · conv => whnf
      refine WrapTo.i64 (by omega) ?_
      conv => whnf
      refine LoopOK.weak _ _ ?_ ?_ ?_ (IH (i + 1) (by omega) ⟨by omega, none_succ hb hlt he⟩)
      · exact ⟨rfl, rfl, rfl, rfl, trivial⟩
      · trivial
      · exact clo_fv hfv
  · have hge := le_of_dec h
    conv => whnf
    exact Fin.one hTh rfl (congrArg (AV.int .i64) (fidx_miss (none_all hb hge)).symm) rfl
theorem m_slices_ContainsFunc_string_string (G : GlP) (xs : List Str) (fv : AV) (p : Str → Bool) (hf : ∀ x, x ∈ xs → MeetsV Pg G fv [.str x] [] (.bool (p x)) []) (hfv : cloB (fun _ => false) fv = true) (hl : xs.length ≤ 4294967296) : Meets Pg G F_slices_ContainsFunc_string_string [.lst 1 (xs.map cS), fv] [] (.bool (xs.any p)) [] := by
  refine meets_pure (F := fe_slices_ContainsFunc_string_string) hTh hMx func_slices_ContainsFunc_string_string rfl call_slices_ContainsFunc_string_string rfl (clo_args hfv) rfl ?_
  conv => whnf
  refine CallTo.fn (m_slices_IndexFunc_string_string G xs fv p hf hfv hl) ?_
  conv => whnf
  exact Fin.one hTh rfl (congrArg AV.bool (fidx_geq _ _)) rfl
theorem m_kit_Own_int (G : GlP) (xs : List Int) (hl : xs.length ≤ 4294967296) : Meets Pg G F_kit_Own_int [.lst 1 (xs.map cI)] [] (.lst 1 (xs.map cI)) [] := by
  refine meets_pure (F := fe_kit_Own_int) hTh hMx func_kit_Own_int rfl call_kit_Own_int rfl rfl rfl ?_
  conv => whnf
  refine ⟨by simpa using hl, ?_⟩
  conv => whnf
  exact Fin.own hTh rfl rfl rfl rfl (Clo.map fI xs)
theorem m_kit_Same_int (G : GlP) (xs ys : List Int) (hl : xs.length ≤ 4294967296) : Meets Pg G F_kit_Same_int [.lst 1 (xs.map cI), .lst 1 (ys.map cI)] [] (.bool (decide (xs = ys))) [] := by
  refine meets_pure (F := fe_kit_Same_int) hTh hMx func_kit_Same_int rfl call_kit_Same_int rfl rfl rfl ?_
  conv => whnf
  refine cond_split (fun h => ?_) (fun h => ?_)
  · conv => whnf
    exact Fin.one hTh rfl (AV.no (ne_of_dec h)) rfl
  have hlen := len_of_dec h
  conv => whnf
  refine LoopOK.weak _ _ ?_ ?_ ?_ (LoopOK.ind (fun i : Nat => xs.length - i) (fun i => [(0, .lst 1 (xs.map cI)), (1, .lst 1 (ys.map cI)), (5, .int .i64 i)]) (fun _ => []) (fun i => i ≤ xs.length ∧ xs.take i = ys.take i) ?_ 0 ⟨by omega, by simp⟩)
  · exact ⟨rfl, rfl, rfl, trivial⟩
  · trivial
  · rfl
  intro i ⟨hi, hb⟩ IH
  refine LoopOK.round hTh hMx ?_
  conv => whnf
  refine cond_split (fun h => ?_) (fun h => ?_)
  · have hlt := lt_of_dec h
    conv => whnf
    refine IndexTo.at (map_at cI hlt) ?_
    conv => whnf
    refine IndexTo.at (map_at cI (show i < ys.length by omega)) ?_
    conv => whnf
    refine ⟨by kernel_rfl, ?_⟩
    conv => whnf
    refine cond_split (fun he => ?_) (fun he => ?_)
    · conv => whnf
      exact Fin.one hTh rfl (AV.no (ne_of_get hlt (by omega) (by simpa using he))) rfl
    · conv => whnf
      refine WrapTo.i64 (by omega) ?_
      conv => whnf
      refine LoopOK.weak _ _ ?_ ?_ ?_ (IH (i + 1) (by omega) ⟨by omega, take_eq_succ hb hlt (by omega) (by simpa using he)⟩)
      · exact ⟨rfl, rfl, rfl, trivial⟩
      · trivial
      · rfl
  · have hge := le_of_dec h
    conv => whnf
    exact Fin.one hTh rfl (AV.yes (take_eq_all hb hge hlen)) rfl
theorem m_slices_Equal_int_int (G : GlP) (xs ys : List Int) (hl : xs.length ≤ 4294967296) : Meets Pg G F_slices_Equal_int_int [.lst 1 (xs.map cI), .lst 1 (ys.map cI)] [] (.bool (decide (xs = ys))) [] := by
  refine meets_pure (F := fe_slices_Equal_int_int) hTh hMx func_slices_Equal_int_int rfl call_slices_Equal_int_int rfl rfl rfl ?_
  conv => whnf
  refine cond_split (fun h => ?_) (fun h => ?_)
  · conv => whnf
    exact Fin.one hTh rfl (AV.no (ne_of_dec h)) rfl
  have hlen := len_of_dec h
  conv => whnf
  refine LoopOK.weak _ _ ?_ ?_ ?_ (LoopOK.ind (fun i : Nat => xs.length - i) (fun i => [(0, .lst 1 (xs.map cI)), (1, .lst 1 (ys.map cI)), (11, .lst 1 (xs.map cI)), (12, .int .i64 (xs.map cI).length), (13, .int .i64 i)]) (fun _ => []) (fun i => i ≤ xs.length ∧ xs.take i = ys.take i) ?_ 0 ⟨by omega, by simp⟩)
  · exact ⟨rfl, rfl, rfl, rfl, rfl, trivial⟩
  · trivial
  · rfl
  intro i ⟨hi, hb⟩ IH
  refine LoopOK.round hTh hMx ?_
  conv => whnf
  refine cond_split (fun h => ?_) (fun h => ?_)
  · have hlt := lt_of_dec h
    conv => whnf
    refine IndexTo.at (map_at cI hlt) ?_
    conv => whnf
    refine IndexTo.at (map_at cI (show i < ys.length by omega)) ?_
    conv => whnf
    refine ⟨by kernel_rfl, ?_⟩
    conv => whnf
    refine cond_split (fun he => ?_) (fun he => ?_)
    · conv => whnf
      exact Fin.one hTh rfl (AV.no (ne_of_get hlt (by omega) (by simpa using he))) rfl
    · conv => whnf
      refine WrapTo.i64 (by omega) ?_
      conv => whnf
      refine LoopOK.weak _ _ ?_ ?_ ?_ (IH (i + 1) (by omega) ⟨by omega, take_eq_succ hb hlt (by omega) (by simpa using he)⟩)
      · exact ⟨rfl, rfl, rfl, rfl, rfl, trivial⟩
      · trivial
      · rfl
  · have hge := le_of_dec h
    conv => whnf
    exact Fin.one hTh rfl (AV.yes (take_eq_all hb hge hlen)) rfl
theorem m_slices_Index_int_int (G : GlP) (xs : List Int) (n : Int) (hl : xs.length ≤ 4294967296) : Meets Pg G F_slices_Index_int_int [.lst 1 (xs.map cI), .int .i64 n] [] (.int .i64 (fidx (fun x => n == x) xs)) [] := by
  refine meets_pure (F := fe_slices_Index_int_int) hTh hMx func_slices_Index_int_int rfl call_slices_Index_int_int rfl rfl rfl ?_
  conv => whnf
  refine LoopOK.weak _ _ ?_ ?_ ?_ (LoopOK.ind (fun i : Nat => xs.length - i) (fun i => [(0, .lst 1 (xs.map cI)), (1, .int .i64 n), (7, .int .i64 (xs.map cI).length), (8, .int .i64 i)]) (fun _ => []) (fun i => i ≤ xs.length ∧ ∀ x ∈ xs.take i, (fun x => n == x) x = false) ?_ 0 ⟨by omega, by simp⟩)
  · exact ⟨rfl, rfl, rfl, rfl, trivial⟩
  · trivial
  · rfl
  intro i ⟨hi, hb⟩ IH
  refine LoopOK.round hTh hMx ?_
  conv => whnf
  refine cond_split (fun h => ?_) (fun h => ?_)
  · have hlt := lt_of_dec h
    conv => whnf
    refine IndexTo.at (map_at cI hlt) ?_
    conv => whnf
    refine cond_split (fun he => ?_) (fun he => ?_)
    · conv => whnf
      exact Fin.one hTh rfl (congrArg (AV.int .i64) (fidx_hit hlt he hb).symm) rfl
    · conv => whnf
      refine WrapTo.i64 (by omega) ?_
      conv => whnf
      refine LoopOK.weak _ _ ?_ ?_ ?_ (IH (i + 1) (by omega) ⟨by omega, none_succ hb hlt he⟩)
      · exact ⟨rfl, rfl, rfl, rfl, trivial⟩
      · trivial
      · rfl
  · have hge := le_of_dec h
    conv => whnf
    exact Fin.one hTh rfl (congrArg (AV.int .i64) (fidx_miss (none_all hb hge)).symm) rfl
theorem m_slices_Contains_int_int (G : GlP) (xs : List Int) (n : Int) (hl : xs.length ≤ 4294967296) : Meets Pg G F_slices_Contains_int_int [.lst 1 (xs.map cI), .int .i64 n] [] (.bool (xs.any (fun x => n == x))) [] := by
  refine meets_pure (F := fe_slices_Contains_int_int) hTh hMx func_slices_Contains_int_int rfl call_slices_Contains_int_int rfl rfl rfl ?_
  conv => whnf
  refine CallTo.fn (m_slices_Index_int_int G xs n hl) ?_
  conv => whnf
  exact Fin.one hTh rfl (congrArg AV.bool (fidx_geq _ _)) rfl
theorem m_slices_IndexFunc_int_int (G : GlP) (xs : List Int) (fv : AV) (p : Int → Bool) (hf : ∀ x, x ∈ xs → MeetsV Pg G fv [.int .i64 x] [] (.bool (p x)) []) (hfv : cloB (fun _ => false) fv = true) (hl : xs.length ≤ 4294967296) : Meets Pg G F_slices_IndexFunc_int_int [.lst 1 (xs.map cI), fv] [] (.int .i64 (fidx p xs)) [] := by
  refine meets_pure (F := fe_slices_IndexFunc_int_int) hTh hMx func_slices_IndexFunc_int_int rfl call_slices_IndexFunc_int_int rfl (clo_args hfv) rfl ?_
  conv => whnf
  refine LoopOK.weak _ _ ?_ ?_ ?_ (LoopOK.ind (fun i : Nat => xs.length - i) (fun i => [(0, .lst 1 (xs.map cI)), (1, fv), (7, .int .i64 (xs.map cI).length), (8, .int .i64 i)]) (fun _ => []) (fun i => i ≤ xs.length ∧ ∀ x ∈ xs.take i, p x = false) ?_ 0 ⟨by omega, by simp⟩)
  · exact ⟨rfl, rfl, rfl, rfl, trivial⟩
  · trivial
  · exact clo_fv hfv
  intro i ⟨hi, hb⟩ IH
  refine LoopOK.round hTh hMx ?_
  conv => whnf
  refine cond_split (fun h => ?_) (fun h => ?_)
  · have hlt := lt_of_dec h
    conv => whnf
    refine IndexTo.at (map_at cI hlt) ?_
    conv => whnf
    refine CallTo.pure (hf _ (List.getElem_mem hlt)) ?_
    conv => whnf
    refine cond_split (fun he => ?_) (fun he => ?_)
    · conv => whnf
      exact Fin.one hTh rfl (congrArg (AV.int .i64) (fidx_hit hlt he hb).symm) rfl
    · conv => whnf
      refine WrapTo.i64 (by omega) ?_
      conv => whnf
      refine LoopOK.weak _ _ ?_ ?_ ?_ (IH (i + 1) (by omega) ⟨by omega, none_succ hb hlt he⟩)
      · exact ⟨rfl, rfl, rfl, rfl, trivial⟩
      · trivial
      · exact clo_fv hfv
  · have hge := le_of_dec h
    conv => whnf
    exact Fin.one hTh rfl (congrArg (AV.int .i64) (fidx_miss (none_all hb hge)).symm) rfl
theorem m_slices_ContainsFunc_int_int (G : GlP) (xs : List Int) (fv : AV) (p : Int → Bool) (hf : ∀ x, x ∈ xs → MeetsV Pg G fv [.int .i64 x] [] (.bool (p x)) []) (hfv : cloB (fun _ => false) fv = true) (hl : xs.length ≤ 4294967296) : Meets Pg G F_slices_ContainsFunc_int_int [.lst 1 (xs.map cI), fv] [] (.bool (xs.any p)) [] := by
  refine meets_pure (F := fe_slices_ContainsFunc_int_int) hTh hMx func_slices_ContainsFunc_int_int rfl call_slices_ContainsFunc_int_int rfl (clo_args hfv) rfl ?_
  conv => whnf
  refine CallTo.fn (m_slices_IndexFunc_int_int G xs fv p hf hfv hl) ?_
  conv => whnf
  exact Fin.one hTh rfl (congrArg AV.bool (fidx_geq _ _)) rfl
theorem m_kit_Own_int64 (G : GlP) (xs : List Int) (hl : xs.length ≤ 4294967296) : Meets Pg G F_kit_Own_int64 [.lst 1 (xs.map cI)] [] (.lst 1 (xs.map cI)) [] := by
  refine meets_pure (F := fe_kit_Own_int64) hTh hMx func_kit_Own_int64 rfl call_kit_Own_int64 rfl rfl rfl ?_
  conv => whnf
  refine ⟨by simpa using hl, ?_⟩
  conv => whnf
  exact Fin.own hTh rfl rfl rfl rfl (Clo.map fI xs)
theorem m_slices_Clone_int64_int64 (G : GlP) (xs : List Int) (hl : xs.length ≤ 4294967296) : Meets Pg G F_slices_Clone_int64_int64 [.lst 1 (xs.map cI)] [] (.lst 1 (xs.map cI)) [] := by
  refine meets_pure (F := fe_slices_Clone_int64_int64) hTh hMx func_slices_Clone_int64_int64 rfl call_slices_Clone_int64_int64 rfl rfl rfl ?_
  by_cases hx : xs = []
  · subst hx
    conv => whnf
    refine OpTo.nilS hTh rfl (.inl rfl) rfl rfl trivial ?_
    conv => whnf
    refine ⟨?_, ?_⟩
    · conv => whnf
      exact Fin.emp hTh rfl rfl
    · conv => whnf
      refine ⟨hl, ?_⟩
      conv => whnf
      exact Fin.own hTh rfl rfl rfl rfl Clo.nil
  · conv => whnf
    refine OpTo.nilL hTh (fun e => hx (by simpa using e)) rfl (.inl rfl) rfl rfl rfl ?_
    conv => whnf
    refine ⟨by simpa using hl, ?_⟩
    conv => whnf
    exact Fin.own hTh rfl rfl rfl rfl (Clo.map fI xs)
theorem m_kit_Same_int64 (G : GlP) (xs ys : List Int) (hl : xs.length ≤ 4294967296) : Meets Pg G F_kit_Same_int64 [.lst 1 (xs.map cI), .lst 1 (ys.map cI)] [] (.bool (decide (xs = ys))) [] := by
  refine meets_pure (F := fe_kit_Same_int64) hTh hMx func_kit_Same_int64 rfl call_kit_Same_int64 rfl rfl rfl ?_
  conv => whnf
  refine cond_split (fun h => ?_) (fun h => ?_)
  · conv => whnf
    exact Fin.one hTh rfl (AV.no (ne_of_dec h)) rfl
  have hlen := len_of_dec h
  conv => whnf
  refine LoopOK.weak _ _ ?_ ?_ ?_ (LoopOK.ind (fun i : Nat => xs.length - i) (fun i => [(0, .lst 1 (xs.map cI)), (1, .lst 1 (ys.map cI)), (5, .int .i64 i)]) (fun _ => []) (fun i => i ≤ xs.length ∧ xs.take i = ys.take i) ?_ 0 ⟨by omega, by simp⟩)
  · exact ⟨rfl, rfl, rfl, trivial⟩
  · trivial
  · rfl
  intro i ⟨hi, hb⟩ IH
  refine LoopOK.round hTh hMx ?_
  conv => whnf
  refine cond_split (fun h => ?_) (fun h => ?_)
  · have hlt := lt_of_dec h
    conv => whnf
    refine IndexTo.at (map_at cI hlt) ?_
    conv => whnf
    refine IndexTo.at (map_at cI (show i < ys.length by omega)) ?_
    conv => whnf
    refine ⟨by kernel_rfl, ?_⟩
    conv => whnf
    refine cond_split (fun he => ?_) (fun he => ?_)
    · conv => whnf
      exact Fin.one hTh rfl (AV.no (ne_of_get hlt (by omega) (by simpa using he))) rfl
    · conv => whnf
      refine WrapTo.i64 (by omega) ?_
      conv => whnf
      refine LoopOK.weak _ _ ?_ ?_ ?_ (IH (i + 1) (by omega) ⟨by omega, take_eq_succ hb hlt (by omega) (by simpa using he)⟩)
      · exact ⟨rfl, rfl, rfl, trivial⟩
      · trivial
      · rfl
  · have hge := le_of_dec h
    conv => whnf
    exact Fin.one hTh rfl (AV.yes (take_eq_all hb hge hlen)) rfl
theorem m_slices_Equal_int64_int64 (G : GlP) (xs ys : List Int) (hl : xs.length ≤ 4294967296) : Meets Pg G F_slices_Equal_int64_int64 [.lst 1 (xs.map cI), .lst 1 (ys.map cI)] [] (.bool (decide (xs = ys))) [] := by
  refine meets_pure (F := fe_slices_Equal_int64_int64) hTh hMx func_slices_Equal_int64_int64 rfl call_slices_Equal_int64_int64 rfl rfl rfl ?_
  conv => whnf
  refine cond_split (fun h => ?_) (fun h => ?_)
  · conv => whnf
    exact Fin.one hTh rfl (AV.no (ne_of_dec h)) rfl
  have hlen := len_of_dec h
  conv => whnf
  refine LoopOK.weak _ _ ?_ ?_ ?_ (LoopOK.ind (fun i : Nat => xs.length - i) (fun i => [(0, .lst 1 (xs.map cI)), (1, .lst 1 (ys.map cI)), (11, .lst 1 (xs.map cI)), (12, .int .i64 (xs.map cI).length), (13, .int .i64 i)]) (fun _ => []) (fun i => i ≤ xs.length ∧ xs.take i = ys.take i) ?_ 0 ⟨by omega, by simp⟩)
  · exact ⟨rfl, rfl, rfl, rfl, rfl, trivial⟩
  · trivial
  · rfl
  intro i ⟨hi, hb⟩ IH
  refine LoopOK.round hTh hMx ?_
  conv => whnf
  refine cond_split (fun h => ?_) (fun h => ?_)
  · have hlt := lt_of_dec h
    conv => whnf
    refine IndexTo.at (map_at cI hlt) ?_
    conv => whnf
    refine IndexTo.at (map_at cI (show i < ys.length by omega)) ?_
    conv => whnf
    refine ⟨by kernel_rfl, ?_⟩
    conv => whnf
    refine cond_split (fun he => ?_) (fun he => ?_)
    · conv => whnf
      exact Fin.one hTh rfl (AV.no (ne_of_get hlt (by omega) (by simpa using he))) rfl
    · conv => whnf
      refine WrapTo.i64 (by omega) ?_
      conv => whnf
      refine LoopOK.weak _ _ ?_ ?_ ?_ (IH (i + 1) (by omega) ⟨by omega, take_eq_succ hb hlt (by omega) (by simpa using he)⟩)
      · exact ⟨rfl, rfl, rfl, rfl, rfl, trivial⟩
      · trivial
      · rfl
  · have hge := le_of_dec h
    conv => whnf
    exact Fin.one hTh rfl (AV.yes (take_eq_all hb hge hlen)) rfl
theorem m_slices_IndexFunc_int64_int64 (G : GlP) (xs : List Int) (fv : AV) (p : Int → Bool) (hf : ∀ x, x ∈ xs → MeetsV Pg G fv [.int .i64 x] [] (.bool (p x)) []) (hfv : cloB (fun _ => false) fv = true) (hl : xs.length ≤ 4294967296) : Meets Pg G F_slices_IndexFunc_int64_int64 [.lst 1 (xs.map cI), fv] [] (.int .i64 (fidx p xs)) [] := by
  refine meets_pure (F := fe_slices_IndexFunc_int64_int64) hTh hMx func_slices_IndexFunc_int64_int64 rfl call_slices_IndexFunc_int64_int64 rfl (clo_args hfv) rfl ?_
  conv => whnf
  refine LoopOK.weak _ _ ?_ ?_ ?_ (LoopOK.ind (fun i : Nat => xs.length - i) (fun i => [(0, .lst 1 (xs.map cI)), (1, fv), (7, .int .i64 (xs.map cI).length), (8, .int .i64 i)]) (fun _ => []) (fun i => i ≤ xs.length ∧ ∀ x ∈ xs.take i, p x = false) ?_ 0 ⟨by omega, by simp⟩)
  · exact ⟨rfl, rfl, rfl, rfl, trivial⟩
  · trivial
  · exact clo_fv hfv
  intro i ⟨hi, hb⟩ IH
  refine LoopOK.round hTh hMx ?_
  conv => whnf
  refine cond_split (fun h => ?_) (fun h => ?_)
  · have hlt := lt_of_dec h
    conv => whnf
    refine IndexTo.at (map_at cI hlt) ?_
    conv => whnf
    refine CallTo.pure (hf _ (List.getElem_mem hlt)) ?_
    conv => whnf
    refine cond_split (fun he => ?_) (fun he => ?_)
    · conv => whnf
      exact Fin.one hTh rfl (congrArg (AV.int .i64) (fidx_hit hlt he hb).symm) rfl
    · conv => whnf
      refine WrapTo.i64 (by omega) ?_
      conv => whnf
      refine LoopOK.weak _ _ ?_ ?_ ?_ (IH (i + 1) (by omega) ⟨by omega, none_succ hb hlt he⟩)
      · exact ⟨rfl, rfl, rfl, rfl, trivial⟩
      · trivial
      · exact clo_fv hfv
  · have hge := le_of_dec h
    conv => whnf
    exact Fin.one hTh rfl (congrArg (AV.int .i64) (fidx_miss (none_all hb hge)).symm) rfl
theorem m_slices_ContainsFunc_int64_int64 (G : GlP) (xs : List Int) (fv : AV) (p : Int → Bool) (hf : ∀ x, x ∈ xs → MeetsV Pg G fv [.int .i64 x] [] (.bool (p x)) []) (hfv : cloB (fun _ => false) fv = true) (hl : xs.length ≤ 4294967296) : Meets Pg G F_slices_ContainsFunc_int64_int64 [.lst 1 (xs.map cI), fv] [] (.bool (xs.any p)) [] := by
  refine meets_pure (F := fe_slices_ContainsFunc_int64_int64) hTh hMx func_slices_ContainsFunc_int64_int64 rfl call_slices_ContainsFunc_int64_int64 rfl (clo_args hfv) rfl ?_
  conv => whnf
  refine CallTo.fn (m_slices_IndexFunc_int64_int64 G xs fv p hf hfv hl) ?_
  conv => whnf
  exact Fin.one hTh rfl (congrArg AV.bool (fidx_geq _ _)) rfl
theorem m_kit_Own_api_Path (G : GlP) (xs : List Pth) (hl : xs.length ≤ 4294967296) : Meets Pg G F_kit_Own_api_Path [.lst 4 (xs.map cPth)] [] (.lst 4 (xs.map cPth)) [] := by
  refine meets_pure (F := fe_kit_Own_api_Path) hTh hMx func_kit_Own_api_Path rfl call_kit_Own_api_Path rfl rfl rfl ?_
  conv => whnf
  refine ⟨by simpa using hl, ?_⟩
  conv => whnf
  exact Fin.own hTh rfl rfl rfl rfl (Clo.map fPth xs)
theorem m_kit_Same_api_Path (G : GlP) (xs ys : List Pth) (hl : xs.length ≤ 4294967296) : Meets Pg G F_kit_Same_api_Path [.lst 4 (xs.map cPth), .lst 4 (ys.map cPth)] [] (.bool (decide (xs = ys))) [] := by
  refine meets_pure (F := fe_kit_Same_api_Path) hTh hMx func_kit_Same_api_Path rfl call_kit_Same_api_Path rfl rfl rfl ?_
  conv => whnf
  refine cond_split (fun h => ?_) (fun h => ?_)
  · conv => whnf
    exact Fin.one hTh rfl (AV.no (ne_of_dec h)) rfl
  have hlen := len_of_dec h
  conv => whnf
  refine LoopOK.weak _ _ ?_ ?_ ?_ (LoopOK.ind (fun i : Nat => xs.length - i) (fun i => [(0, .lst 4 (xs.map cPth)), (1, .lst 4 (ys.map cPth)), (5, .int .i64 i)]) (fun _ => []) (fun i => i ≤ xs.length ∧ xs.take i = ys.take i) ?_ 0 ⟨by omega, by simp⟩)
  · exact ⟨rfl, rfl, rfl, trivial⟩
  · trivial
  · rfl
  intro i ⟨hi, hb⟩ IH
  refine LoopOK.round hTh hMx ?_
  conv => whnf
  refine cond_split (fun h => ?_) (fun h => ?_)
  · have hlt := lt_of_dec h
    conv => whnf
    refine IndexTo.at (map_at cPth hlt) ?_
    conv => whnf
    refine IndexTo.at (map_at cPth (show i < ys.length by omega)) ?_
    conv => whnf
    refine OpTo.neA hTh eqOK_api_Path rfl rfl rfl rfl rfl (qPth _ _) ?_
    conv => whnf
    refine ⟨by kernel_rfl, ?_⟩
    conv => whnf
    refine cond_split (fun he => ?_) (fun he => ?_)
    · conv => whnf
      exact Fin.one hTh rfl (AV.no (ne_of_get hlt (by omega) (dec_no he))) rfl
    · conv => whnf
      refine WrapTo.i64 (by omega) ?_
      conv => whnf
      refine LoopOK.weak _ _ ?_ ?_ ?_ (IH (i + 1) (by omega) ⟨by omega, take_eq_succ hb hlt (by omega) (dec_yes he)⟩)
      · exact ⟨rfl, rfl, rfl, trivial⟩
      · trivial
      · rfl
  · have hge := le_of_dec h
    conv => whnf
    exact Fin.one hTh rfl (AV.yes (take_eq_all hb hge hlen)) rfl
theorem m_kit_Own_api_Door (G : GlP) (xs : List Dor) (hl : xs.length ≤ 4294967296) : Meets Pg G F_kit_Own_api_Door [.lst 7 (xs.map cDor)] [] (.lst 7 (xs.map cDor)) [] := by
  refine meets_pure (F := fe_kit_Own_api_Door) hTh hMx func_kit_Own_api_Door rfl call_kit_Own_api_Door rfl rfl rfl ?_
  conv => whnf
  refine ⟨by simpa using hl, ?_⟩
  conv => whnf
  exact Fin.own hTh rfl rfl rfl rfl (Clo.map fDor xs)
theorem m_kit_Same_api_Door (G : GlP) (xs ys : List Dor) (hl : xs.length ≤ 4294967296) : Meets Pg G F_kit_Same_api_Door [.lst 7 (xs.map cDor), .lst 7 (ys.map cDor)] [] (.bool (decide (xs = ys))) [] := by
  refine meets_pure (F := fe_kit_Same_api_Door) hTh hMx func_kit_Same_api_Door rfl call_kit_Same_api_Door rfl rfl rfl ?_
  conv => whnf
  refine cond_split (fun h => ?_) (fun h => ?_)
  · conv => whnf
    exact Fin.one hTh rfl (AV.no (ne_of_dec h)) rfl
  have hlen := len_of_dec h
  conv => whnf
  refine LoopOK.weak _ _ ?_ ?_ ?_ (LoopOK.ind (fun i : Nat => xs.length - i) (fun i => [(0, .lst 7 (xs.map cDor)), (1, .lst 7 (ys.map cDor)), (5, .int .i64 i)]) (fun _ => []) (fun i => i ≤ xs.length ∧ xs.take i = ys.take i) ?_ 0 ⟨by omega, by simp⟩)
  · exact ⟨rfl, rfl, rfl, trivial⟩
  · trivial
  · rfl
  intro i ⟨hi, hb⟩ IH
  refine LoopOK.round hTh hMx ?_
  conv => whnf
  refine cond_split (fun h => ?_) (fun h => ?_)
  · have hlt := lt_of_dec h
    conv => whnf
    refine IndexTo.at (map_at cDor hlt) ?_
    conv => whnf
    refine IndexTo.at (map_at cDor (show i < ys.length by omega)) ?_
    conv => whnf
    refine OpTo.neA hTh eqOK_api_Door rfl rfl rfl rfl rfl (qDor _ _) ?_
    conv => whnf
    refine ⟨by kernel_rfl, ?_⟩
    conv => whnf
    refine cond_split (fun he => ?_) (fun he => ?_)
    · conv => whnf
      exact Fin.one hTh rfl (AV.no (ne_of_get hlt (by omega) (dec_no he))) rfl
    · conv => whnf
      refine WrapTo.i64 (by omega) ?_
      conv => whnf
      refine LoopOK.weak _ _ ?_ ?_ ?_ (IH (i + 1) (by omega) ⟨by omega, take_eq_succ hb hlt (by omega) (dec_yes he)⟩)
      · exact ⟨rfl, rfl, rfl, trivial⟩
      · trivial
      · rfl
  · have hge := le_of_dec h
    conv => whnf
    exact Fin.one hTh rfl (AV.yes (take_eq_all hb hge hlen)) rfl
theorem m_slices_IndexFunc_api_Route_api_Route (G : GlP) (xs : List Rte) (fv : AV) (p : Rte → Bool) (hf : ∀ x, x ∈ xs → MeetsV Pg G fv [(.agg (cRte x))] [] (.bool (p x)) []) (hfv : cloB (fun _ => false) fv = true) (hl : xs.length ≤ 4294967296) : Meets Pg G F_slices_IndexFunc_api_Route_api_Route [.lst 4 (xs.map cRte), fv] [] (.int .i64 (fidx p xs)) [] := by
  refine meets_pure (F := fe_slices_IndexFunc_api_Route_api_Route) hTh hMx func_slices_IndexFunc_api_Route_api_Route rfl call_slices_IndexFunc_api_Route_api_Route rfl (clo_args hfv) rfl ?_
  conv => whnf
  refine LoopOK.weak _ _ ?_ ?_ ?_ (LoopOK.ind (fun i : Nat => xs.length - i) (fun i => [(0, .lst 4 (xs.map cRte)), (1, fv), (7, .int .i64 (xs.map cRte).length), (8, .int .i64 i)]) (fun _ => []) (fun i => i ≤ xs.length ∧ ∀ x ∈ xs.take i, p x = false) ?_ 0 ⟨by omega, by simp⟩)
  · exact ⟨rfl, rfl, rfl, rfl, trivial⟩
  · trivial
  · exact clo_fv hfv
  intro i ⟨hi, hb⟩ IH
  refine LoopOK.round hTh hMx ?_
  conv => whnf
  refine cond_split (fun h => ?_) (fun h => ?_)
  · have hlt := lt_of_dec h
    conv => whnf
    refine IndexTo.at (map_at cRte hlt) ?_
    conv => whnf
    refine CallTo.pure (hf _ (List.getElem_mem hlt)) ?_
    conv => whnf
    refine cond_split (fun he => ?_) (fun he => ?_)
    · conv => whnf
      exact Fin.one hTh rfl (congrArg (AV.int .i64) (fidx_hit hlt he hb).symm) rfl
    · conv => whnf
      refine WrapTo.i64 (by omega) ?_
      conv => whnf
      refine LoopOK.weak _ _ ?_ ?_ ?_ (IH (i + 1) (by omega) ⟨by omega, none_succ hb hlt he⟩)
      · exact ⟨rfl, rfl, rfl, rfl, trivial⟩
      · trivial
      · exact clo_fv hfv
  · have hge := le_of_dec h
    conv => whnf
    exact Fin.one hTh rfl (congrArg (AV.int .i64) (fidx_miss (none_all hb hge)).symm) rfl
theorem m_slices_ContainsFunc_api_Route_api_Route (G : GlP) (xs : List Rte) (fv : AV) (p : Rte → Bool) (hf : ∀ x, x ∈ xs → MeetsV Pg G fv [(.agg (cRte x))] [] (.bool (p x)) []) (hfv : cloB (fun _ => false) fv = true) (hl : xs.length ≤ 4294967296) : Meets Pg G F_slices_ContainsFunc_api_Route_api_Route [.lst 4 (xs.map cRte), fv] [] (.bool (xs.any p)) [] := by
  refine meets_pure (F := fe_slices_ContainsFunc_api_Route_api_Route) hTh hMx func_slices_ContainsFunc_api_Route_api_Route rfl call_slices_ContainsFunc_api_Route_api_Route rfl (clo_args hfv) rfl ?_
  conv => whnf
  refine CallTo.fn (m_slices_IndexFunc_api_Route_api_Route G xs fv p hf hfv hl) ?_
  conv => whnf
  exact Fin.one hTh rfl (congrArg AV.bool (fidx_geq _ _)) rfl
theorem m_kit_Own_api_Trip (G : GlP) (xs : List Trp) (hl : xs.length ≤ 4294967296) : Meets Pg G F_kit_Own_api_Trip [.lst 5 (xs.map cTrp)] [] (.lst 5 (xs.map cTrp)) [] := by
  refine meets_pure (F := fe_kit_Own_api_Trip) hTh hMx func_kit_Own_api_Trip rfl call_kit_Own_api_Trip rfl rfl rfl ?_
  conv => whnf
  refine ⟨by simpa using hl, ?_⟩
  conv => whnf
  exact Fin.own hTh rfl rfl rfl rfl (Clo.map fTrp xs)
theorem m_kit_Same_api_Trip (G : GlP) (xs ys : List Trp) (hl : xs.length ≤ 4294967296) : Meets Pg G F_kit_Same_api_Trip [.lst 5 (xs.map cTrp), .lst 5 (ys.map cTrp)] [] (.bool (decide (xs = ys))) [] := by
  refine meets_pure (F := fe_kit_Same_api_Trip) hTh hMx func_kit_Same_api_Trip rfl call_kit_Same_api_Trip rfl rfl rfl ?_
  conv => whnf
  refine cond_split (fun h => ?_) (fun h => ?_)
  · conv => whnf
    exact Fin.one hTh rfl (AV.no (ne_of_dec h)) rfl
  have hlen := len_of_dec h
  conv => whnf
  refine LoopOK.weak _ _ ?_ ?_ ?_ (LoopOK.ind (fun i : Nat => xs.length - i) (fun i => [(0, .lst 5 (xs.map cTrp)), (1, .lst 5 (ys.map cTrp)), (5, .int .i64 i)]) (fun _ => []) (fun i => i ≤ xs.length ∧ xs.take i = ys.take i) ?_ 0 ⟨by omega, by simp⟩)
  · exact ⟨rfl, rfl, rfl, trivial⟩
  · trivial
  · rfl
  intro i ⟨hi, hb⟩ IH
  refine LoopOK.round hTh hMx ?_
  conv => whnf
  refine cond_split (fun h => ?_) (fun h => ?_)
  · have hlt := lt_of_dec h
    conv => whnf
    refine IndexTo.at (map_at cTrp hlt) ?_
    conv => whnf
    refine IndexTo.at (map_at cTrp (show i < ys.length by omega)) ?_
    conv => whnf
    refine OpTo.neA hTh eqOK_api_Trip rfl rfl rfl rfl rfl (qTrp _ _) ?_
    conv => whnf
    refine ⟨by kernel_rfl, ?_⟩
    conv => whnf
    refine cond_split (fun he => ?_) (fun he => ?_)
    · conv => whnf
      exact Fin.one hTh rfl (AV.no (ne_of_get hlt (by omega) (dec_no he))) rfl
    · conv => whnf
      refine WrapTo.i64 (by omega) ?_
      conv => whnf
      refine LoopOK.weak _ _ ?_ ?_ ?_ (IH (i + 1) (by omega) ⟨by omega, take_eq_succ hb hlt (by omega) (dec_yes he)⟩)
      · exact ⟨rfl, rfl, rfl, trivial⟩
      · trivial
      · rfl
  · have hge := le_of_dec h
    conv => whnf
    exact Fin.one hTh rfl (AV.yes (take_eq_all hb hge hlen)) rfl
theorem m_kit_Own_api_Hazard (G : GlP) (xs : List Hzd) (hl : xs.length ≤ 4294967296) : Meets Pg G F_kit_Own_api_Hazard [.lst 5 (xs.map cHzd)] [] (.lst 5 (xs.map cHzd)) [] := by
  refine meets_pure (F := fe_kit_Own_api_Hazard) hTh hMx func_kit_Own_api_Hazard rfl call_kit_Own_api_Hazard rfl rfl rfl ?_
  conv => whnf
  refine ⟨by simpa using hl, ?_⟩
  conv => whnf
  exact Fin.own hTh rfl rfl rfl rfl (Clo.map fHzd xs)
theorem m_kit_Same_api_Hazard (G : GlP) (xs ys : List Hzd) (hl : xs.length ≤ 4294967296) : Meets Pg G F_kit_Same_api_Hazard [.lst 5 (xs.map cHzd), .lst 5 (ys.map cHzd)] [] (.bool (decide (xs = ys))) [] := by
  refine meets_pure (F := fe_kit_Same_api_Hazard) hTh hMx func_kit_Same_api_Hazard rfl call_kit_Same_api_Hazard rfl rfl rfl ?_
  conv => whnf
  refine cond_split (fun h => ?_) (fun h => ?_)
  · conv => whnf
    exact Fin.one hTh rfl (AV.no (ne_of_dec h)) rfl
  have hlen := len_of_dec h
  conv => whnf
  refine LoopOK.weak _ _ ?_ ?_ ?_ (LoopOK.ind (fun i : Nat => xs.length - i) (fun i => [(0, .lst 5 (xs.map cHzd)), (1, .lst 5 (ys.map cHzd)), (5, .int .i64 i)]) (fun _ => []) (fun i => i ≤ xs.length ∧ xs.take i = ys.take i) ?_ 0 ⟨by omega, by simp⟩)
  · exact ⟨rfl, rfl, rfl, trivial⟩
  · trivial
  · rfl
  intro i ⟨hi, hb⟩ IH
  refine LoopOK.round hTh hMx ?_
  conv => whnf
  refine cond_split (fun h => ?_) (fun h => ?_)
  · have hlt := lt_of_dec h
    conv => whnf
    refine IndexTo.at (map_at cHzd hlt) ?_
    conv => whnf
    refine IndexTo.at (map_at cHzd (show i < ys.length by omega)) ?_
    conv => whnf
    refine OpTo.neA hTh eqOK_api_Hazard rfl rfl rfl rfl rfl (qHzd _ _) ?_
    conv => whnf
    refine ⟨by kernel_rfl, ?_⟩
    conv => whnf
    refine cond_split (fun he => ?_) (fun he => ?_)
    · conv => whnf
      exact Fin.one hTh rfl (AV.no (ne_of_get hlt (by omega) (dec_no he))) rfl
    · conv => whnf
      refine WrapTo.i64 (by omega) ?_
      conv => whnf
      refine LoopOK.weak _ _ ?_ ?_ ?_ (IH (i + 1) (by omega) ⟨by omega, take_eq_succ hb hlt (by omega) (dec_yes he)⟩)
      · exact ⟨rfl, rfl, rfl, trivial⟩
      · trivial
      · rfl
  · have hge := le_of_dec h
    conv => whnf
    exact Fin.one hTh rfl (AV.yes (take_eq_all hb hge hlen)) rfl
theorem m_kit_Own_api_PathOf (G : GlP) (xs : List PthO) (hl : xs.length ≤ 4294967296) : Meets Pg G F_kit_Own_api_PathOf [.lst 3 (xs.map cPthO)] [] (.lst 3 (xs.map cPthO)) [] := by
  refine meets_pure (F := fe_kit_Own_api_PathOf) hTh hMx func_kit_Own_api_PathOf rfl call_kit_Own_api_PathOf rfl rfl rfl ?_
  conv => whnf
  refine ⟨by simpa using hl, ?_⟩
  conv => whnf
  exact Fin.own hTh rfl rfl rfl rfl (Clo.map fPthO xs)
theorem m_kit_Same_api_PathOf (G : GlP) (xs ys : List PthO) (hl : xs.length ≤ 4294967296) : Meets Pg G F_kit_Same_api_PathOf [.lst 3 (xs.map cPthO), .lst 3 (ys.map cPthO)] [] (.bool (decide (xs = ys))) [] := by
  refine meets_pure (F := fe_kit_Same_api_PathOf) hTh hMx func_kit_Same_api_PathOf rfl call_kit_Same_api_PathOf rfl rfl rfl ?_
  conv => whnf
  refine cond_split (fun h => ?_) (fun h => ?_)
  · conv => whnf
    exact Fin.one hTh rfl (AV.no (ne_of_dec h)) rfl
  have hlen := len_of_dec h
  conv => whnf
  refine LoopOK.weak _ _ ?_ ?_ ?_ (LoopOK.ind (fun i : Nat => xs.length - i) (fun i => [(0, .lst 3 (xs.map cPthO)), (1, .lst 3 (ys.map cPthO)), (5, .int .i64 i)]) (fun _ => []) (fun i => i ≤ xs.length ∧ xs.take i = ys.take i) ?_ 0 ⟨by omega, by simp⟩)
  · exact ⟨rfl, rfl, rfl, trivial⟩
  · trivial
  · rfl
  intro i ⟨hi, hb⟩ IH
  refine LoopOK.round hTh hMx ?_
  conv => whnf
  refine cond_split (fun h => ?_) (fun h => ?_)
  · have hlt := lt_of_dec h
    conv => whnf
    refine IndexTo.at (map_at cPthO hlt) ?_
    conv => whnf
    refine IndexTo.at (map_at cPthO (show i < ys.length by omega)) ?_
    conv => whnf
    refine OpTo.neA hTh eqOK_api_PathOf rfl rfl rfl rfl rfl (qPthO _ _) ?_
    conv => whnf
    refine ⟨by kernel_rfl, ?_⟩
    conv => whnf
    refine cond_split (fun he => ?_) (fun he => ?_)
    · conv => whnf
      exact Fin.one hTh rfl (AV.no (ne_of_get hlt (by omega) (dec_no he))) rfl
    · conv => whnf
      refine WrapTo.i64 (by omega) ?_
      conv => whnf
      refine LoopOK.weak _ _ ?_ ?_ ?_ (IH (i + 1) (by omega) ⟨by omega, take_eq_succ hb hlt (by omega) (dec_yes he)⟩)
      · exact ⟨rfl, rfl, rfl, trivial⟩
      · trivial
      · rfl
  · have hge := le_of_dec h
    conv => whnf
    exact Fin.one hTh rfl (AV.yes (take_eq_all hb hge hlen)) rfl
theorem m_slices_Equal_api_PathOf_api_PathOf (G : GlP) (xs ys : List PthO) (hl : xs.length ≤ 4294967296) : Meets Pg G F_slices_Equal_api_PathOf_api_PathOf [.lst 3 (xs.map cPthO), .lst 3 (ys.map cPthO)] [] (.bool (decide (xs = ys))) [] := by
  refine meets_pure (F := fe_slices_Equal_api_PathOf_api_PathOf) hTh hMx func_slices_Equal_api_PathOf_api_PathOf rfl call_slices_Equal_api_PathOf_api_PathOf rfl rfl rfl ?_
  conv => whnf
  refine cond_split (fun h => ?_) (fun h => ?_)
  · conv => whnf
    exact Fin.one hTh rfl (AV.no (ne_of_dec h)) rfl
  have hlen := len_of_dec h
  conv => whnf
  refine LoopOK.weak _ _ ?_ ?_ ?_ (LoopOK.ind (fun i : Nat => xs.length - i) (fun i => [(0, .lst 3 (xs.map cPthO)), (1, .lst 3 (ys.map cPthO)), (11, .lst 3 (xs.map cPthO)), (12, .int .i64 (xs.map cPthO).length), (13, .int .i64 i)]) (fun _ => []) (fun i => i ≤ xs.length ∧ xs.take i = ys.take i) ?_ 0 ⟨by omega, by simp⟩)
  · exact ⟨rfl, rfl, rfl, rfl, rfl, trivial⟩
  · trivial
  · rfl
  intro i ⟨hi, hb⟩ IH
  refine LoopOK.round hTh hMx ?_
  conv => whnf
  refine cond_split (fun h => ?_) (fun h => ?_)
  · have hlt := lt_of_dec h
    conv => whnf
    refine IndexTo.at (map_at cPthO hlt) ?_
    conv => whnf
    refine IndexTo.at (map_at cPthO (show i < ys.length by omega)) ?_
    conv => whnf
    refine OpTo.neA hTh eqOK_api_PathOf rfl rfl rfl rfl rfl (qPthO _ _) ?_
    conv => whnf
    refine ⟨by kernel_rfl, ?_⟩
    conv => whnf
    refine cond_split (fun he => ?_) (fun he => ?_)
    · conv => whnf
      exact Fin.one hTh rfl (AV.no (ne_of_get hlt (by omega) (dec_no he))) rfl
    · conv => whnf
      refine WrapTo.i64 (by omega) ?_
      conv => whnf
      refine LoopOK.weak _ _ ?_ ?_ ?_ (IH (i + 1) (by omega) ⟨by omega, take_eq_succ hb hlt (by omega) (dec_yes he)⟩)
      · exact ⟨rfl, rfl, rfl, rfl, rfl, trivial⟩
      · trivial
      · rfl
  · have hge := le_of_dec h
    conv => whnf
    exact Fin.one hTh rfl (AV.yes (take_eq_all hb hge hlen)) rfl
theorem m_slices_IndexFunc_api_PathOf_api_PathOf (G : GlP) (xs : List PthO) (fv : AV) (p : PthO → Bool) (hf : ∀ x, x ∈ xs → MeetsV Pg G fv [(.agg (cPthO x))] [] (.bool (p x)) []) (hfv : cloB (fun _ => false) fv = true) (hl : xs.length ≤ 4294967296) : Meets Pg G F_slices_IndexFunc_api_PathOf_api_PathOf [.lst 3 (xs.map cPthO), fv] [] (.int .i64 (fidx p xs)) [] := by
  refine meets_pure (F := fe_slices_IndexFunc_api_PathOf_api_PathOf) hTh hMx func_slices_IndexFunc_api_PathOf_api_PathOf rfl call_slices_IndexFunc_api_PathOf_api_PathOf rfl (clo_args hfv) rfl ?_
  conv => whnf
  refine LoopOK.weak _ _ ?_ ?_ ?_ (LoopOK.ind (fun i : Nat => xs.length - i) (fun i => [(0, .lst 3 (xs.map cPthO)), (1, fv), (7, .int .i64 (xs.map cPthO).length), (8, .int .i64 i)]) (fun _ => []) (fun i => i ≤ xs.length ∧ ∀ x ∈ xs.take i, p x = false) ?_ 0 ⟨by omega, by simp⟩)
  · exact ⟨rfl, rfl, rfl, rfl, trivial⟩
  · trivial
  · exact clo_fv hfv
  intro i ⟨hi, hb⟩ IH
  refine LoopOK.round hTh hMx ?_
  conv => whnf
  refine cond_split (fun h => ?_) (fun h => ?_)
  · have hlt := lt_of_dec h
    conv => whnf
    refine IndexTo.at (map_at cPthO hlt) ?_
    conv => whnf
    refine CallTo.pure (hf _ (List.getElem_mem hlt)) ?_
    conv => whnf
    refine cond_split (fun he => ?_) (fun he => ?_)
    · conv => whnf
      exact Fin.one hTh rfl (congrArg (AV.int .i64) (fidx_hit hlt he hb).symm) rfl
    · conv => whnf
      refine WrapTo.i64 (by omega) ?_
      conv => whnf
      refine LoopOK.weak _ _ ?_ ?_ ?_ (IH (i + 1) (by omega) ⟨by omega, none_succ hb hlt he⟩)
      · exact ⟨rfl, rfl, rfl, rfl, trivial⟩
      · trivial
      · exact clo_fv hfv
  · have hge := le_of_dec h
    conv => whnf
    exact Fin.one hTh rfl (congrArg (AV.int .i64) (fidx_miss (none_all hb hge)).symm) rfl
theorem m_slices_ContainsFunc_api_PathOf_api_PathOf (G : GlP) (xs : List PthO) (fv : AV) (p : PthO → Bool) (hf : ∀ x, x ∈ xs → MeetsV Pg G fv [(.agg (cPthO x))] [] (.bool (p x)) []) (hfv : cloB (fun _ => false) fv = true) (hl : xs.length ≤ 4294967296) : Meets Pg G F_slices_ContainsFunc_api_PathOf_api_PathOf [.lst 3 (xs.map cPthO), fv] [] (.bool (xs.any p)) [] := by
  refine meets_pure (F := fe_slices_ContainsFunc_api_PathOf_api_PathOf) hTh hMx func_slices_ContainsFunc_api_PathOf_api_PathOf rfl call_slices_ContainsFunc_api_PathOf_api_PathOf rfl (clo_args hfv) rfl ?_
  conv => whnf
  refine CallTo.fn (m_slices_IndexFunc_api_PathOf_api_PathOf G xs fv p hf hfv hl) ?_
  conv => whnf
  exact Fin.one hTh rfl (congrArg AV.bool (fidx_geq _ _)) rfl
theorem m_kit_Own_api_DoorOf (G : GlP) (xs : List DorO) (hl : xs.length ≤ 4294967296) : Meets Pg G F_kit_Own_api_DoorOf [.lst 6 (xs.map cDorO)] [] (.lst 6 (xs.map cDorO)) [] := by
  refine meets_pure (F := fe_kit_Own_api_DoorOf) hTh hMx func_kit_Own_api_DoorOf rfl call_kit_Own_api_DoorOf rfl rfl rfl ?_
  conv => whnf
  refine ⟨by simpa using hl, ?_⟩
  conv => whnf
  exact Fin.own hTh rfl rfl rfl rfl (Clo.map fDorO xs)
theorem m_kit_Same_api_DoorOf (G : GlP) (xs ys : List DorO) (hl : xs.length ≤ 4294967296) : Meets Pg G F_kit_Same_api_DoorOf [.lst 6 (xs.map cDorO), .lst 6 (ys.map cDorO)] [] (.bool (decide (xs = ys))) [] := by
  refine meets_pure (F := fe_kit_Same_api_DoorOf) hTh hMx func_kit_Same_api_DoorOf rfl call_kit_Same_api_DoorOf rfl rfl rfl ?_
  conv => whnf
  refine cond_split (fun h => ?_) (fun h => ?_)
  · conv => whnf
    exact Fin.one hTh rfl (AV.no (ne_of_dec h)) rfl
  have hlen := len_of_dec h
  conv => whnf
  refine LoopOK.weak _ _ ?_ ?_ ?_ (LoopOK.ind (fun i : Nat => xs.length - i) (fun i => [(0, .lst 6 (xs.map cDorO)), (1, .lst 6 (ys.map cDorO)), (5, .int .i64 i)]) (fun _ => []) (fun i => i ≤ xs.length ∧ xs.take i = ys.take i) ?_ 0 ⟨by omega, by simp⟩)
  · exact ⟨rfl, rfl, rfl, trivial⟩
  · trivial
  · rfl
  intro i ⟨hi, hb⟩ IH
  refine LoopOK.round hTh hMx ?_
  conv => whnf
  refine cond_split (fun h => ?_) (fun h => ?_)
  · have hlt := lt_of_dec h
    conv => whnf
    refine IndexTo.at (map_at cDorO hlt) ?_
    conv => whnf
    refine IndexTo.at (map_at cDorO (show i < ys.length by omega)) ?_
    conv => whnf
    refine OpTo.neA hTh eqOK_api_DoorOf rfl rfl rfl rfl rfl (qDorO _ _) ?_
    conv => whnf
    refine ⟨by kernel_rfl, ?_⟩
    conv => whnf
    refine cond_split (fun he => ?_) (fun he => ?_)
    · conv => whnf
      exact Fin.one hTh rfl (AV.no (ne_of_get hlt (by omega) (dec_no he))) rfl
    · conv => whnf
      refine WrapTo.i64 (by omega) ?_
      conv => whnf
      refine LoopOK.weak _ _ ?_ ?_ ?_ (IH (i + 1) (by omega) ⟨by omega, take_eq_succ hb hlt (by omega) (dec_yes he)⟩)
      · exact ⟨rfl, rfl, rfl, trivial⟩
      · trivial
      · rfl
  · have hge := le_of_dec h
    conv => whnf
    exact Fin.one hTh rfl (AV.yes (take_eq_all hb hge hlen)) rfl
theorem m_slices_Equal_api_DoorOf_api_DoorOf (G : GlP) (xs ys : List DorO) (hl : xs.length ≤ 4294967296) : Meets Pg G F_slices_Equal_api_DoorOf_api_DoorOf [.lst 6 (xs.map cDorO), .lst 6 (ys.map cDorO)] [] (.bool (decide (xs = ys))) [] := by
  refine meets_pure (F := fe_slices_Equal_api_DoorOf_api_DoorOf) hTh hMx func_slices_Equal_api_DoorOf_api_DoorOf rfl call_slices_Equal_api_DoorOf_api_DoorOf rfl rfl rfl ?_
  conv => whnf
  refine cond_split (fun h => ?_) (fun h => ?_)
  · conv => whnf
    exact Fin.one hTh rfl (AV.no (ne_of_dec h)) rfl
  have hlen := len_of_dec h
  conv => whnf
  refine LoopOK.weak _ _ ?_ ?_ ?_ (LoopOK.ind (fun i : Nat => xs.length - i) (fun i => [(0, .lst 6 (xs.map cDorO)), (1, .lst 6 (ys.map cDorO)), (11, .lst 6 (xs.map cDorO)), (12, .int .i64 (xs.map cDorO).length), (13, .int .i64 i)]) (fun _ => []) (fun i => i ≤ xs.length ∧ xs.take i = ys.take i) ?_ 0 ⟨by omega, by simp⟩)
  · exact ⟨rfl, rfl, rfl, rfl, rfl, trivial⟩
  · trivial
  · rfl
  intro i ⟨hi, hb⟩ IH
  refine LoopOK.round hTh hMx ?_
  conv => whnf
  refine cond_split (fun h => ?_) (fun h => ?_)
  · have hlt := lt_of_dec h
    conv => whnf
    refine IndexTo.at (map_at cDorO hlt) ?_
    conv => whnf
    refine IndexTo.at (map_at cDorO (show i < ys.length by omega)) ?_
    conv => whnf
    refine OpTo.neA hTh eqOK_api_DoorOf rfl rfl rfl rfl rfl (qDorO _ _) ?_
    conv => whnf
    refine ⟨by kernel_rfl, ?_⟩
    conv => whnf
    refine cond_split (fun he => ?_) (fun he => ?_)
    · conv => whnf
      exact Fin.one hTh rfl (AV.no (ne_of_get hlt (by omega) (dec_no he))) rfl
    · conv => whnf
      refine WrapTo.i64 (by omega) ?_
      conv => whnf
      refine LoopOK.weak _ _ ?_ ?_ ?_ (IH (i + 1) (by omega) ⟨by omega, take_eq_succ hb hlt (by omega) (dec_yes he)⟩)
      · exact ⟨rfl, rfl, rfl, rfl, rfl, trivial⟩
      · trivial
      · rfl
  · have hge := le_of_dec h
    conv => whnf
    exact Fin.one hTh rfl (AV.yes (take_eq_all hb hge hlen)) rfl
theorem m_slices_IndexFunc_api_DoorOf_api_DoorOf (G : GlP) (xs : List DorO) (fv : AV) (p : DorO → Bool) (hf : ∀ x, x ∈ xs → MeetsV Pg G fv [(.agg (cDorO x))] [] (.bool (p x)) []) (hfv : cloB (fun _ => false) fv = true) (hl : xs.length ≤ 4294967296) : Meets Pg G F_slices_IndexFunc_api_DoorOf_api_DoorOf [.lst 6 (xs.map cDorO), fv] [] (.int .i64 (fidx p xs)) [] := by
  refine meets_pure (F := fe_slices_IndexFunc_api_DoorOf_api_DoorOf) hTh hMx func_slices_IndexFunc_api_DoorOf_api_DoorOf rfl call_slices_IndexFunc_api_DoorOf_api_DoorOf rfl (clo_args hfv) rfl ?_
  conv => whnf
  refine LoopOK.weak _ _ ?_ ?_ ?_ (LoopOK.ind (fun i : Nat => xs.length - i) (fun i => [(0, .lst 6 (xs.map cDorO)), (1, fv), (7, .int .i64 (xs.map cDorO).length), (8, .int .i64 i)]) (fun _ => []) (fun i => i ≤ xs.length ∧ ∀ x ∈ xs.take i, p x = false) ?_ 0 ⟨by omega, by simp⟩)
  · exact ⟨rfl, rfl, rfl, rfl, trivial⟩
  · trivial
  · exact clo_fv hfv
  intro i ⟨hi, hb⟩ IH
  refine LoopOK.round hTh hMx ?_
  conv => whnf
  refine cond_split (fun h => ?_) (fun h => ?_)
  · have hlt := lt_of_dec h
    conv => whnf
    refine IndexTo.at (map_at cDorO hlt) ?_
    conv => whnf
    refine CallTo.pure (hf _ (List.getElem_mem hlt)) ?_
    conv => whnf
    refine cond_split (fun he => ?_) (fun he => ?_)
    · conv => whnf
      exact Fin.one hTh rfl (congrArg (AV.int .i64) (fidx_hit hlt he hb).symm) rfl
    · conv => whnf
      refine WrapTo.i64 (by omega) ?_
      conv => whnf
      refine LoopOK.weak _ _ ?_ ?_ ?_ (IH (i + 1) (by omega) ⟨by omega, none_succ hb hlt he⟩)
      · exact ⟨rfl, rfl, rfl, rfl, trivial⟩
      · trivial
      · exact clo_fv hfv
  · have hge := le_of_dec h
    conv => whnf
    exact Fin.one hTh rfl (congrArg (AV.int .i64) (fidx_miss (none_all hb hge)).symm) rfl
theorem m_slices_ContainsFunc_api_DoorOf_api_DoorOf (G : GlP) (xs : List DorO) (fv : AV) (p : DorO → Bool) (hf : ∀ x, x ∈ xs → MeetsV Pg G fv [(.agg (cDorO x))] [] (.bool (p x)) []) (hfv : cloB (fun _ => false) fv = true) (hl : xs.length ≤ 4294967296) : Meets Pg G F_slices_ContainsFunc_api_DoorOf_api_DoorOf [.lst 6 (xs.map cDorO), fv] [] (.bool (xs.any p)) [] := by
  refine meets_pure (F := fe_slices_ContainsFunc_api_DoorOf_api_DoorOf) hTh hMx func_slices_ContainsFunc_api_DoorOf_api_DoorOf rfl call_slices_ContainsFunc_api_DoorOf_api_DoorOf rfl (clo_args hfv) rfl ?_
  conv => whnf
  refine CallTo.fn (m_slices_IndexFunc_api_DoorOf_api_DoorOf G xs fv p hf hfv hl) ?_
  conv => whnf
  exact Fin.one hTh rfl (congrArg AV.bool (fidx_geq _ _)) rfl
theorem m_slices_IndexFunc_api_RouteOf_api_RouteOf (G : GlP) (xs : List RteO) (fv : AV) (p : RteO → Bool) (hf : ∀ x, x ∈ xs → MeetsV Pg G fv [(.agg (cRteO x))] [] (.bool (p x)) []) (hfv : cloB (fun _ => false) fv = true) (hl : xs.length ≤ 4294967296) : Meets Pg G F_slices_IndexFunc_api_RouteOf_api_RouteOf [.lst 3 (xs.map cRteO), fv] [] (.int .i64 (fidx p xs)) [] := by
  refine meets_pure (F := fe_slices_IndexFunc_api_RouteOf_api_RouteOf) hTh hMx func_slices_IndexFunc_api_RouteOf_api_RouteOf rfl call_slices_IndexFunc_api_RouteOf_api_RouteOf rfl (clo_args hfv) rfl ?_
  conv => whnf
  refine LoopOK.weak _ _ ?_ ?_ ?_ (LoopOK.ind (fun i : Nat => xs.length - i) (fun i => [(0, .lst 3 (xs.map cRteO)), (1, fv), (7, .int .i64 (xs.map cRteO).length), (8, .int .i64 i)]) (fun _ => []) (fun i => i ≤ xs.length ∧ ∀ x ∈ xs.take i, p x = false) ?_ 0 ⟨by omega, by simp⟩)
  · exact ⟨rfl, rfl, rfl, rfl, trivial⟩
  · trivial
  · exact clo_fv hfv
  intro i ⟨hi, hb⟩ IH
  refine LoopOK.round hTh hMx ?_
  conv => whnf
  refine cond_split (fun h => ?_) (fun h => ?_)
  · have hlt := lt_of_dec h
    conv => whnf
    refine IndexTo.at (map_at cRteO hlt) ?_
    conv => whnf
    refine CallTo.pure (hf _ (List.getElem_mem hlt)) ?_
    conv => whnf
    refine cond_split (fun he => ?_) (fun he => ?_)
    · conv => whnf
      exact Fin.one hTh rfl (congrArg (AV.int .i64) (fidx_hit hlt he hb).symm) rfl
    · conv => whnf
      refine WrapTo.i64 (by omega) ?_
      conv => whnf
      refine LoopOK.weak _ _ ?_ ?_ ?_ (IH (i + 1) (by omega) ⟨by omega, none_succ hb hlt he⟩)
      · exact ⟨rfl, rfl, rfl, rfl, trivial⟩
      · trivial
      · exact clo_fv hfv
  · have hge := le_of_dec h
    conv => whnf
    exact Fin.one hTh rfl (congrArg (AV.int .i64) (fidx_miss (none_all hb hge)).symm) rfl
theorem m_slices_ContainsFunc_api_RouteOf_api_RouteOf (G : GlP) (xs : List RteO) (fv : AV) (p : RteO → Bool) (hf : ∀ x, x ∈ xs → MeetsV Pg G fv [(.agg (cRteO x))] [] (.bool (p x)) []) (hfv : cloB (fun _ => false) fv = true) (hl : xs.length ≤ 4294967296) : Meets Pg G F_slices_ContainsFunc_api_RouteOf_api_RouteOf [.lst 3 (xs.map cRteO), fv] [] (.bool (xs.any p)) [] := by
  refine meets_pure (F := fe_slices_ContainsFunc_api_RouteOf_api_RouteOf) hTh hMx func_slices_ContainsFunc_api_RouteOf_api_RouteOf rfl call_slices_ContainsFunc_api_RouteOf_api_RouteOf rfl (clo_args hfv) rfl ?_
  conv => whnf
  refine CallTo.fn (m_slices_IndexFunc_api_RouteOf_api_RouteOf G xs fv p hf hfv hl) ?_
  conv => whnf
  exact Fin.one hTh rfl (congrArg AV.bool (fidx_geq _ _)) rfl
theorem m_kit_Own_api_TripOf (G : GlP) (xs : List TrpO) (hl : xs.length ≤ 4294967296) : Meets Pg G F_kit_Own_api_TripOf [.lst 4 (xs.map cTrpO)] [] (.lst 4 (xs.map cTrpO)) [] := by
  refine meets_pure (F := fe_kit_Own_api_TripOf) hTh hMx func_kit_Own_api_TripOf rfl call_kit_Own_api_TripOf rfl rfl rfl ?_
  conv => whnf
  refine ⟨by simpa using hl, ?_⟩
  conv => whnf
  exact Fin.own hTh rfl rfl rfl rfl (Clo.map fTrpO xs)
theorem m_kit_Same_api_TripOf (G : GlP) (xs ys : List TrpO) (hl : xs.length ≤ 4294967296) : Meets Pg G F_kit_Same_api_TripOf [.lst 4 (xs.map cTrpO), .lst 4 (ys.map cTrpO)] [] (.bool (decide (xs = ys))) [] := by
  refine meets_pure (F := fe_kit_Same_api_TripOf) hTh hMx func_kit_Same_api_TripOf rfl call_kit_Same_api_TripOf rfl rfl rfl ?_
  conv => whnf
  refine cond_split (fun h => ?_) (fun h => ?_)
  · conv => whnf
    exact Fin.one hTh rfl (AV.no (ne_of_dec h)) rfl
  have hlen := len_of_dec h
  conv => whnf
  refine LoopOK.weak _ _ ?_ ?_ ?_ (LoopOK.ind (fun i : Nat => xs.length - i) (fun i => [(0, .lst 4 (xs.map cTrpO)), (1, .lst 4 (ys.map cTrpO)), (5, .int .i64 i)]) (fun _ => []) (fun i => i ≤ xs.length ∧ xs.take i = ys.take i) ?_ 0 ⟨by omega, by simp⟩)
  · exact ⟨rfl, rfl, rfl, trivial⟩
  · trivial
  · rfl
  intro i ⟨hi, hb⟩ IH
  refine LoopOK.round hTh hMx ?_
  conv => whnf
  refine cond_split (fun h => ?_) (fun h => ?_)
  · have hlt := lt_of_dec h
    conv => whnf
    refine IndexTo.at (map_at cTrpO hlt) ?_
    conv => whnf
    refine IndexTo.at (map_at cTrpO (show i < ys.length by omega)) ?_
    conv => whnf
    refine OpTo.neA hTh eqOK_api_TripOf rfl rfl rfl rfl rfl (qTrpO _ _) ?_
    conv => whnf
    refine ⟨by kernel_rfl, ?_⟩
    conv => whnf
    refine cond_split (fun he => ?_) (fun he => ?_)
    · conv => whnf
      exact Fin.one hTh rfl (AV.no (ne_of_get hlt (by omega) (dec_no he))) rfl
    · conv => whnf
      refine WrapTo.i64 (by omega) ?_
      conv => whnf
      refine LoopOK.weak _ _ ?_ ?_ ?_ (IH (i + 1) (by omega) ⟨by omega, take_eq_succ hb hlt (by omega) (dec_yes he)⟩)
      · exact ⟨rfl, rfl, rfl, trivial⟩
      · trivial
      · rfl
  · have hge := le_of_dec h
    conv => whnf
    exact Fin.one hTh rfl (AV.yes (take_eq_all hb hge hlen)) rfl
theorem m_slices_Equal_api_TripOf_api_TripOf (G : GlP) (xs ys : List TrpO) (hl : xs.length ≤ 4294967296) : Meets Pg G F_slices_Equal_api_TripOf_api_TripOf [.lst 4 (xs.map cTrpO), .lst 4 (ys.map cTrpO)] [] (.bool (decide (xs = ys))) [] := by
  refine meets_pure (F := fe_slices_Equal_api_TripOf_api_TripOf) hTh hMx func_slices_Equal_api_TripOf_api_TripOf rfl call_slices_Equal_api_TripOf_api_TripOf rfl rfl rfl ?_
  conv => whnf
  refine cond_split (fun h => ?_) (fun h => ?_)
  · conv => whnf
    exact Fin.one hTh rfl (AV.no (ne_of_dec h)) rfl
  have hlen := len_of_dec h
  conv => whnf
  refine LoopOK.weak _ _ ?_ ?_ ?_ (LoopOK.ind (fun i : Nat => xs.length - i) (fun i => [(0, .lst 4 (xs.map cTrpO)), (1, .lst 4 (ys.map cTrpO)), (11, .lst 4 (xs.map cTrpO)), (12, .int .i64 (xs.map cTrpO).length), (13, .int .i64 i)]) (fun _ => []) (fun i => i ≤ xs.length ∧ xs.take i = ys.take i) ?_ 0 ⟨by omega, by simp⟩)
  · exact ⟨rfl, rfl, rfl, rfl, rfl, trivial⟩
  · trivial
  · rfl
  intro i ⟨hi, hb⟩ IH
  refine LoopOK.round hTh hMx ?_
  conv => whnf
  refine cond_split (fun h => ?_) (fun h => ?_)
  · have hlt := lt_of_dec h
    conv => whnf
    refine IndexTo.at (map_at cTrpO hlt) ?_
    conv => whnf
    refine IndexTo.at (map_at cTrpO (show i < ys.length by omega)) ?_
    conv => whnf
    refine OpTo.neA hTh eqOK_api_TripOf rfl rfl rfl rfl rfl (qTrpO _ _) ?_
    conv => whnf
    refine ⟨by kernel_rfl, ?_⟩
    conv => whnf
    refine cond_split (fun he => ?_) (fun he => ?_)
    · conv => whnf
      exact Fin.one hTh rfl (AV.no (ne_of_get hlt (by omega) (dec_no he))) rfl
    · conv => whnf
      refine WrapTo.i64 (by omega) ?_
      conv => whnf
      refine LoopOK.weak _ _ ?_ ?_ ?_ (IH (i + 1) (by omega) ⟨by omega, take_eq_succ hb hlt (by omega) (dec_yes he)⟩)
      · exact ⟨rfl, rfl, rfl, rfl, rfl, trivial⟩
      · trivial
      · rfl
  · have hge := le_of_dec h
    conv => whnf
    exact Fin.one hTh rfl (AV.yes (take_eq_all hb hge hlen)) rfl
theorem m_slices_IndexFunc_api_TripOf_api_TripOf (G : GlP) (xs : List TrpO) (fv : AV) (p : TrpO → Bool) (hf : ∀ x, x ∈ xs → MeetsV Pg G fv [(.agg (cTrpO x))] [] (.bool (p x)) []) (hfv : cloB (fun _ => false) fv = true) (hl : xs.length ≤ 4294967296) : Meets Pg G F_slices_IndexFunc_api_TripOf_api_TripOf [.lst 4 (xs.map cTrpO), fv] [] (.int .i64 (fidx p xs)) [] := by
  refine meets_pure (F := fe_slices_IndexFunc_api_TripOf_api_TripOf) hTh hMx func_slices_IndexFunc_api_TripOf_api_TripOf rfl call_slices_IndexFunc_api_TripOf_api_TripOf rfl (clo_args hfv) rfl ?_
  conv => whnf
  refine LoopOK.weak _ _ ?_ ?_ ?_ (LoopOK.ind (fun i : Nat => xs.length - i) (fun i => [(0, .lst 4 (xs.map cTrpO)), (1, fv), (7, .int .i64 (xs.map cTrpO).length), (8, .int .i64 i)]) (fun _ => []) (fun i => i ≤ xs.length ∧ ∀ x ∈ xs.take i, p x = false) ?_ 0 ⟨by omega, by simp⟩)
  · exact ⟨rfl, rfl, rfl, rfl, trivial⟩
  · trivial
  · exact clo_fv hfv
  intro i ⟨hi, hb⟩ IH
  refine LoopOK.round hTh hMx ?_
  conv => whnf
  refine cond_split (fun h => ?_) (fun h => ?_)
  · have hlt := lt_of_dec h
    conv => whnf
    refine IndexTo.at (map_at cTrpO hlt) ?_
    conv => whnf
    refine CallTo.pure (hf _ (List.getElem_mem hlt)) ?_
    conv => whnf
    refine cond_split (fun he => ?_) (fun he => ?_)
    · conv => whnf
      exact Fin.one hTh rfl (congrArg (AV.int .i64) (fidx_hit hlt he hb).symm) rfl
    · conv => whnf
      refine WrapTo.i64 (by omega) ?_
      conv => whnf
      refine LoopOK.weak _ _ ?_ ?_ ?_ (IH (i + 1) (by omega) ⟨by omega, none_succ hb hlt he⟩)
      · exact ⟨rfl, rfl, rfl, rfl, trivial⟩
      · trivial
      · exact clo_fv hfv
  · have hge := le_of_dec h
    conv => whnf
    exact Fin.one hTh rfl (congrArg (AV.int .i64) (fidx_miss (none_all hb hge)).symm) rfl
theorem m_slices_ContainsFunc_api_TripOf_api_TripOf (G : GlP) (xs : List TrpO) (fv : AV) (p : TrpO → Bool) (hf : ∀ x, x ∈ xs → MeetsV Pg G fv [(.agg (cTrpO x))] [] (.bool (p x)) []) (hfv : cloB (fun _ => false) fv = true) (hl : xs.length ≤ 4294967296) : Meets Pg G F_slices_ContainsFunc_api_TripOf_api_TripOf [.lst 4 (xs.map cTrpO), fv] [] (.bool (xs.any p)) [] := by
  refine meets_pure (F := fe_slices_ContainsFunc_api_TripOf_api_TripOf) hTh hMx func_slices_ContainsFunc_api_TripOf_api_TripOf rfl call_slices_ContainsFunc_api_TripOf_api_TripOf rfl (clo_args hfv) rfl ?_
  conv => whnf
  refine CallTo.fn (m_slices_IndexFunc_api_TripOf_api_TripOf G xs fv p hf hfv hl) ?_
  conv => whnf
  exact Fin.one hTh rfl (congrArg AV.bool (fidx_geq _ _)) rfl
theorem m_kit_Own_api_HazardOf (G : GlP) (xs : List HzdO) (hl : xs.length ≤ 4294967296) : Meets Pg G F_kit_Own_api_HazardOf [.lst 5 (xs.map cHzdO)] [] (.lst 5 (xs.map cHzdO)) [] := by
  refine meets_pure (F := fe_kit_Own_api_HazardOf) hTh hMx func_kit_Own_api_HazardOf rfl call_kit_Own_api_HazardOf rfl rfl rfl ?_
  conv => whnf
  refine ⟨by simpa using hl, ?_⟩
  conv => whnf
  exact Fin.own hTh rfl rfl rfl rfl (Clo.map fHzdO xs)
theorem m_kit_Same_api_HazardOf (G : GlP) (xs ys : List HzdO) (hl : xs.length ≤ 4294967296) : Meets Pg G F_kit_Same_api_HazardOf [.lst 5 (xs.map cHzdO), .lst 5 (ys.map cHzdO)] [] (.bool (decide (xs = ys))) [] := by
  refine meets_pure (F := fe_kit_Same_api_HazardOf) hTh hMx func_kit_Same_api_HazardOf rfl call_kit_Same_api_HazardOf rfl rfl rfl ?_
  conv => whnf
  refine cond_split (fun h => ?_) (fun h => ?_)
  · conv => whnf
    exact Fin.one hTh rfl (AV.no (ne_of_dec h)) rfl
  have hlen := len_of_dec h
  conv => whnf
  refine LoopOK.weak _ _ ?_ ?_ ?_ (LoopOK.ind (fun i : Nat => xs.length - i) (fun i => [(0, .lst 5 (xs.map cHzdO)), (1, .lst 5 (ys.map cHzdO)), (5, .int .i64 i)]) (fun _ => []) (fun i => i ≤ xs.length ∧ xs.take i = ys.take i) ?_ 0 ⟨by omega, by simp⟩)
  · exact ⟨rfl, rfl, rfl, trivial⟩
  · trivial
  · rfl
  intro i ⟨hi, hb⟩ IH
  refine LoopOK.round hTh hMx ?_
  conv => whnf
  refine cond_split (fun h => ?_) (fun h => ?_)
  · have hlt := lt_of_dec h
    conv => whnf
    refine IndexTo.at (map_at cHzdO hlt) ?_
    conv => whnf
    refine IndexTo.at (map_at cHzdO (show i < ys.length by omega)) ?_
    conv => whnf
    refine OpTo.neA hTh eqOK_api_HazardOf rfl rfl rfl rfl rfl (qHzdO _ _) ?_
    conv => whnf
    refine ⟨by kernel_rfl, ?_⟩
    conv => whnf
    refine cond_split (fun he => ?_) (fun he => ?_)
    · conv => whnf
      exact Fin.one hTh rfl (AV.no (ne_of_get hlt (by omega) (dec_no he))) rfl
    · conv => whnf
      refine WrapTo.i64 (by omega) ?_
      conv => whnf
      refine LoopOK.weak _ _ ?_ ?_ ?_ (IH (i + 1) (by omega) ⟨by omega, take_eq_succ hb hlt (by omega) (dec_yes he)⟩)
      · exact ⟨rfl, rfl, rfl, trivial⟩
      · trivial
      · rfl
  · have hge := le_of_dec h
    conv => whnf
    exact Fin.one hTh rfl (AV.yes (take_eq_all hb hge hlen)) rfl
theorem m_slices_Equal_api_HazardOf_api_HazardOf (G : GlP) (xs ys : List HzdO) (hl : xs.length ≤ 4294967296) : Meets Pg G F_slices_Equal_api_HazardOf_api_HazardOf [.lst 5 (xs.map cHzdO), .lst 5 (ys.map cHzdO)] [] (.bool (decide (xs = ys))) [] := by
  refine meets_pure (F := fe_slices_Equal_api_HazardOf_api_HazardOf) hTh hMx func_slices_Equal_api_HazardOf_api_HazardOf rfl call_slices_Equal_api_HazardOf_api_HazardOf rfl rfl rfl ?_
  conv => whnf
  refine cond_split (fun h => ?_) (fun h => ?_)
  · conv => whnf
    exact Fin.one hTh rfl (AV.no (ne_of_dec h)) rfl
  have hlen := len_of_dec h
  conv => whnf
  refine LoopOK.weak _ _ ?_ ?_ ?_ (LoopOK.ind (fun i : Nat => xs.length - i) (fun i => [(0, .lst 5 (xs.map cHzdO)), (1, .lst 5 (ys.map cHzdO)), (11, .lst 5 (xs.map cHzdO)), (12, .int .i64 (xs.map cHzdO).length), (13, .int .i64 i)]) (fun _ => []) (fun i => i ≤ xs.length ∧ xs.take i = ys.take i) ?_ 0 ⟨by omega, by simp⟩)
  · exact ⟨rfl, rfl, rfl, rfl, rfl, trivial⟩
  · trivial
  · rfl
  intro i ⟨hi, hb⟩ IH
  refine LoopOK.round hTh hMx ?_
  conv => whnf
  refine cond_split (fun h => ?_) (fun h => ?_)
  · have hlt := lt_of_dec h
    conv => whnf
    refine IndexTo.at (map_at cHzdO hlt) ?_
    conv => whnf
    refine IndexTo.at (map_at cHzdO (show i < ys.length by omega)) ?_
    conv => whnf
    refine OpTo.neA hTh eqOK_api_HazardOf rfl rfl rfl rfl rfl (qHzdO _ _) ?_
    conv => whnf
    refine ⟨by kernel_rfl, ?_⟩
    conv => whnf
    refine cond_split (fun he => ?_) (fun he => ?_)
    · conv => whnf
      exact Fin.one hTh rfl (AV.no (ne_of_get hlt (by omega) (dec_no he))) rfl
    · conv => whnf
      refine WrapTo.i64 (by omega) ?_
      conv => whnf
      refine LoopOK.weak _ _ ?_ ?_ ?_ (IH (i + 1) (by omega) ⟨by omega, take_eq_succ hb hlt (by omega) (dec_yes he)⟩)
      · exact ⟨rfl, rfl, rfl, rfl, rfl, trivial⟩
      · trivial
      · rfl
  · have hge := le_of_dec h
    conv => whnf
    exact Fin.one hTh rfl (AV.yes (take_eq_all hb hge hlen)) rfl
theorem m_slices_IndexFunc_api_HazardOf_api_HazardOf (G : GlP) (xs : List HzdO) (fv : AV) (p : HzdO → Bool) (hf : ∀ x, x ∈ xs → MeetsV Pg G fv [(.agg (cHzdO x))] [] (.bool (p x)) []) (hfv : cloB (fun _ => false) fv = true) (hl : xs.length ≤ 4294967296) : Meets Pg G F_slices_IndexFunc_api_HazardOf_api_HazardOf [.lst 5 (xs.map cHzdO), fv] [] (.int .i64 (fidx p xs)) [] := by
  refine meets_pure (F := fe_slices_IndexFunc_api_HazardOf_api_HazardOf) hTh hMx func_slices_IndexFunc_api_HazardOf_api_HazardOf rfl call_slices_IndexFunc_api_HazardOf_api_HazardOf rfl (clo_args hfv) rfl ?_
  conv => whnf
  refine LoopOK.weak _ _ ?_ ?_ ?_ (LoopOK.ind (fun i : Nat => xs.length - i) (fun i => [(0, .lst 5 (xs.map cHzdO)), (1, fv), (7, .int .i64 (xs.map cHzdO).length), (8, .int .i64 i)]) (fun _ => []) (fun i => i ≤ xs.length ∧ ∀ x ∈ xs.take i, p x = false) ?_ 0 ⟨by omega, by simp⟩)
  · exact ⟨rfl, rfl, rfl, rfl, trivial⟩
  · trivial
  · exact clo_fv hfv
  intro i ⟨hi, hb⟩ IH
  refine LoopOK.round hTh hMx ?_
  conv => whnf
  refine cond_split (fun h => ?_) (fun h => ?_)
  · have hlt := lt_of_dec h
    conv => whnf
    refine IndexTo.at (map_at cHzdO hlt) ?_
    conv => whnf
    refine CallTo.pure (hf _ (List.getElem_mem hlt)) ?_
    conv => whnf
    refine cond_split (fun he => ?_) (fun he => ?_)
    · conv => whnf
      exact Fin.one hTh rfl (congrArg (AV.int .i64) (fidx_hit hlt he hb).symm) rfl
    · conv => whnf
      refine WrapTo.i64 (by omega) ?_
      conv => whnf
      refine LoopOK.weak _ _ ?_ ?_ ?_ (IH (i + 1) (by omega) ⟨by omega, none_succ hb hlt he⟩)
      · exact ⟨rfl, rfl, rfl, rfl, trivial⟩
      · trivial
      · exact clo_fv hfv
  · have hge := le_of_dec h
    conv => whnf
    exact Fin.one hTh rfl (congrArg (AV.int .i64) (fidx_miss (none_all hb hge)).symm) rfl
theorem m_slices_ContainsFunc_api_HazardOf_api_HazardOf (G : GlP) (xs : List HzdO) (fv : AV) (p : HzdO → Bool) (hf : ∀ x, x ∈ xs → MeetsV Pg G fv [(.agg (cHzdO x))] [] (.bool (p x)) []) (hfv : cloB (fun _ => false) fv = true) (hl : xs.length ≤ 4294967296) : Meets Pg G F_slices_ContainsFunc_api_HazardOf_api_HazardOf [.lst 5 (xs.map cHzdO), fv] [] (.bool (xs.any p)) [] := by
  refine meets_pure (F := fe_slices_ContainsFunc_api_HazardOf_api_HazardOf) hTh hMx func_slices_ContainsFunc_api_HazardOf_api_HazardOf rfl call_slices_ContainsFunc_api_HazardOf_api_HazardOf rfl (clo_args hfv) rfl ?_
  conv => whnf
  refine CallTo.fn (m_slices_IndexFunc_api_HazardOf_api_HazardOf G xs fv p hf hfv hl) ?_
  conv => whnf
  exact Fin.one hTh rfl (congrArg AV.bool (fidx_geq _ _)) rfl
theorem m_world_all_string_int (G : GlP) (xs : List Str) (fv : AV) (g : Str → Int) (hf : ∀ x, x ∈ xs → MeetsV Pg G fv [.str x] [] (.int .i64 (g x)) []) (hfv : cloB (fun _ => false) fv = true) (hl : xs.length ≤ 4294967296) :
    Meets Pg G F_world_all_string_int [.lst 1 (xs.map cS), fv] [] (.lst 1 ((xs.map g).map cI)) [] := by
  rw [List.map_map]
  refine meets_pure (F := fe_world_all_string_int) hTh hMx func_world_all_string_int rfl call_world_all_string_int rfl (clo_args hfv) rfl ?_
  conv => whnf
  refine LoopOK.conv (Conv.empOwn 4 rfl (F_world_all_string_int, 18) rfl T_int 1) (LoopOK.weak _ _ ?_ ?_ ?_ (LoopOK.ind (fun i : Nat => xs.length - i)
    (fun i => [(0, .lst 1 (xs.map cS)), (1, fv), (7, .lst 1 (xs.map cS)), (8, .int .i64 (xs.map cS).length), (9, .int .i64 i), (4, .own (F_world_all_string_int, 18) i)]) (fun i => [((F_world_all_string_int, 18), .row T_int 1 ((xs.take i).map fun x => cI (g x)))]) (fun i => i ≤ xs.length) ?_ 0 (by omega)))
  · exact ⟨rfl, rfl, rfl, rfl, rfl, rfl, trivial⟩
  · exact ⟨rfl, trivial⟩
  · exact clo_all hfv (Clo.map (fun x => fI (g x)) _)
  intro i hi IH
  refine LoopOK.round hTh hMx ?_
  conv => whnf
  refine cond_split (fun h => ?_) (fun h => ?_)
  · have hlt := lt_of_dec h
    conv => whnf
    refine IndexTo.at (map_at cS hlt) ?_
    conv => whnf
    refine CallTo.pure (hf _ (List.getElem_mem hlt)) ?_
    conv => whnf
    refine ⟨by simp; omega, by simp; omega, ?_⟩
    conv => whnf
    refine WrapTo.i64 (by omega) ?_
    conv => whnf
    refine LoopOK.weak _ _ ?_ ?_ ?_ (IH (i + 1) (by omega) (by omega))
    · exact ⟨rfl, rfl, rfl, rfl, rfl, rfl, trivial⟩
    · exact ⟨congrArg (fun z => some (ABox.row T_int 1 z)) (map_succ (f := fun x => cI (g x)) hlt), trivial⟩
    · exact clo_all hfv (Clo.map (fun x => fI (g x)) _)
  · have hge := le_of_dec h
    conv => whnf
    rw [show xs.map (cI ∘ g) = (xs.take i).map (fun x => cI (g x)) from (map_all (f := fun x => cI (g x)) hge).symm]
    exact Fin.own hTh rfl rfl rfl (by simp; omega) (Clo.map (fun x => fI (g x)) _)
theorem m_world_all_int_string (G : GlP) (xs : List Int) (fv : AV) (g : Int → Str) (hf : ∀ x, x ∈ xs → MeetsV Pg G fv [.int .i64 x] [] (.str (g x)) []) (hfv : cloB (fun _ => false) fv = true) (hl : xs.length ≤ 4294967296) :
    Meets Pg G F_world_all_int_string [.lst 1 (xs.map cI), fv] [] (.lst 1 ((xs.map g).map cS)) [] := by
  rw [List.map_map]
  refine meets_pure (F := fe_world_all_int_string) hTh hMx func_world_all_int_string rfl call_world_all_int_string rfl (clo_args hfv) rfl ?_
  conv => whnf
  refine LoopOK.conv (Conv.empOwn 4 rfl (F_world_all_int_string, 18) rfl T_string 1) (LoopOK.weak _ _ ?_ ?_ ?_ (LoopOK.ind (fun i : Nat => xs.length - i)
    (fun i => [(0, .lst 1 (xs.map cI)), (1, fv), (7, .lst 1 (xs.map cI)), (8, .int .i64 (xs.map cI).length), (9, .int .i64 i), (4, .own (F_world_all_int_string, 18) i)]) (fun i => [((F_world_all_int_string, 18), .row T_string 1 ((xs.take i).map fun x => cS (g x)))]) (fun i => i ≤ xs.length) ?_ 0 (by omega)))
  · exact ⟨rfl, rfl, rfl, rfl, rfl, rfl, trivial⟩
  · exact ⟨rfl, trivial⟩
  · exact clo_all hfv (Clo.map (fun x => fS (g x)) _)
  intro i hi IH
  refine LoopOK.round hTh hMx ?_
  conv => whnf
  refine cond_split (fun h => ?_) (fun h => ?_)
  · have hlt := lt_of_dec h
    conv => whnf
    refine IndexTo.at (map_at cI hlt) ?_
    conv => whnf
    refine CallTo.pure (hf _ (List.getElem_mem hlt)) ?_
    conv => whnf
    refine ⟨by simp; omega, by simp; omega, ?_⟩
    conv => whnf
    refine WrapTo.i64 (by omega) ?_
    conv => whnf
    refine LoopOK.weak _ _ ?_ ?_ ?_ (IH (i + 1) (by omega) (by omega))
    · exact ⟨rfl, rfl, rfl, rfl, rfl, rfl, trivial⟩
    · exact ⟨congrArg (fun z => some (ABox.row T_string 1 z)) (map_succ (f := fun x => cS (g x)) hlt), trivial⟩
    · exact clo_all hfv (Clo.map (fun x => fS (g x)) _)
  · have hge := le_of_dec h
    conv => whnf
    rw [show xs.map (cS ∘ g) = (xs.take i).map (fun x => cS (g x)) from (map_all (f := fun x => cS (g x)) hge).symm]
    exact Fin.own hTh rfl rfl rfl (by simp; omega) (Clo.map (fun x => fS (g x)) _)
theorem m_world_all_api_Path_string (G : GlP) (xs : List Pth) (fv : AV) (g : Pth → Str) (hf : ∀ x, x ∈ xs → MeetsV Pg G fv [(.agg (cPth x))] [] (.str (g x)) []) (hfv : cloB (fun _ => false) fv = true) (hl : xs.length ≤ 4294967296) :
    Meets Pg G F_world_all_api_Path_string [.lst 4 (xs.map cPth), fv] [] (.lst 1 ((xs.map g).map cS)) [] := by
  rw [List.map_map]
  refine meets_pure (F := fe_world_all_api_Path_string) hTh hMx func_world_all_api_Path_string rfl call_world_all_api_Path_string rfl (clo_args hfv) rfl ?_
  conv => whnf
  refine LoopOK.conv (Conv.empOwn 4 rfl (F_world_all_api_Path_string, 18) rfl T_string 1) (LoopOK.weak _ _ ?_ ?_ ?_ (LoopOK.ind (fun i : Nat => xs.length - i)
    (fun i => [(0, .lst 4 (xs.map cPth)), (1, fv), (7, .lst 4 (xs.map cPth)), (8, .int .i64 (xs.map cPth).length), (9, .int .i64 i), (4, .own (F_world_all_api_Path_string, 18) i)]) (fun i => [((F_world_all_api_Path_string, 18), .row T_string 1 ((xs.take i).map fun x => cS (g x)))]) (fun i => i ≤ xs.length) ?_ 0 (by omega)))
  · exact ⟨rfl, rfl, rfl, rfl, rfl, rfl, trivial⟩
  · exact ⟨rfl, trivial⟩
  · exact clo_all hfv (Clo.map (fun x => fS (g x)) _)
  intro i hi IH
  refine LoopOK.round hTh hMx ?_
  conv => whnf
  refine cond_split (fun h => ?_) (fun h => ?_)
  · have hlt := lt_of_dec h
    conv => whnf
    refine IndexTo.at (map_at cPth hlt) ?_
    conv => whnf
    refine CallTo.pure (hf _ (List.getElem_mem hlt)) ?_
    conv => whnf
    refine ⟨by simp; omega, by simp; omega, ?_⟩
    conv => whnf
    refine WrapTo.i64 (by omega) ?_
    conv => whnf
    refine LoopOK.weak _ _ ?_ ?_ ?_ (IH (i + 1) (by omega) (by omega))
    · exact ⟨rfl, rfl, rfl, rfl, rfl, rfl, trivial⟩
    · exact ⟨congrArg (fun z => some (ABox.row T_string 1 z)) (map_succ (f := fun x => cS (g x)) hlt), trivial⟩
    · exact clo_all hfv (Clo.map (fun x => fS (g x)) _)
  · have hge := le_of_dec h
    conv => whnf
    rw [show xs.map (cS ∘ g) = (xs.take i).map (fun x => cS (g x)) from (map_all (f := fun x => cS (g x)) hge).symm]
    exact Fin.own hTh rfl rfl rfl (by simp; omega) (Clo.map (fun x => fS (g x)) _)
theorem m_world_all_api_Path_api_PathOf (G : GlP) (xs : List Pth) (fv : AV) (g : Pth → PthO) (hf : ∀ x, x ∈ xs → MeetsV Pg G fv [(.agg (cPth x))] [] (.agg (cPthO (g x))) []) (hfv : cloB (fun _ => false) fv = true) (hl : xs.length ≤ 4294967296) :
    Meets Pg G F_world_all_api_Path_api_PathOf [.lst 4 (xs.map cPth), fv] [] (.lst 3 ((xs.map g).map cPthO)) [] := by
  rw [List.map_map]
  refine meets_pure (F := fe_world_all_api_Path_api_PathOf) hTh hMx func_world_all_api_Path_api_PathOf rfl call_world_all_api_Path_api_PathOf rfl (clo_args hfv) rfl ?_
  conv => whnf
  refine LoopOK.conv (Conv.empOwn 4 rfl (F_world_all_api_Path_api_PathOf, 18) rfl T_api_PathOf 3) (LoopOK.weak _ _ ?_ ?_ ?_ (LoopOK.ind (fun i : Nat => xs.length - i)
    (fun i => [(0, .lst 4 (xs.map cPth)), (1, fv), (7, .lst 4 (xs.map cPth)), (8, .int .i64 (xs.map cPth).length), (9, .int .i64 i), (4, .own (F_world_all_api_Path_api_PathOf, 18) i)]) (fun i => [((F_world_all_api_Path_api_PathOf, 18), .row T_api_PathOf 3 ((xs.take i).map fun x => cPthO (g x)))]) (fun i => i ≤ xs.length) ?_ 0 (by omega)))
  · exact ⟨rfl, rfl, rfl, rfl, rfl, rfl, trivial⟩
  · exact ⟨rfl, trivial⟩
  · exact clo_all hfv (Clo.map (fun x => fPthO (g x)) _)
  intro i hi IH
  refine LoopOK.round hTh hMx ?_
  conv => whnf
  refine cond_split (fun h => ?_) (fun h => ?_)
  · have hlt := lt_of_dec h
    conv => whnf
    refine IndexTo.at (map_at cPth hlt) ?_
    conv => whnf
    refine CallTo.pure (hf _ (List.getElem_mem hlt)) ?_
    conv => whnf
    refine ⟨by simp; omega, by simp; omega, ?_⟩
    conv => whnf
    refine WrapTo.i64 (by omega) ?_
    conv => whnf
    refine LoopOK.weak _ _ ?_ ?_ ?_ (IH (i + 1) (by omega) (by omega))
    · exact ⟨rfl, rfl, rfl, rfl, rfl, rfl, trivial⟩
    · exact ⟨congrArg (fun z => some (ABox.row T_api_PathOf 3 z)) (map_succ (f := fun x => cPthO (g x)) hlt), trivial⟩
    · exact clo_all hfv (Clo.map (fun x => fPthO (g x)) _)
  · have hge := le_of_dec h
    conv => whnf
    rw [show xs.map (cPthO ∘ g) = (xs.take i).map (fun x => cPthO (g x)) from (map_all (f := fun x => cPthO (g x)) hge).symm]
    exact Fin.own hTh rfl rfl rfl (by simp; omega) (Clo.map (fun x => fPthO (g x)) _)
theorem m_world_all_api_Door_string (G : GlP) (xs : List Dor) (fv : AV) (g : Dor → Str) (hf : ∀ x, x ∈ xs → MeetsV Pg G fv [(.agg (cDor x))] [] (.str (g x)) []) (hfv : cloB (fun _ => false) fv = true) (hl : xs.length ≤ 4294967296) :
    Meets Pg G F_world_all_api_Door_string [.lst 7 (xs.map cDor), fv] [] (.lst 1 ((xs.map g).map cS)) [] := by
  rw [List.map_map]
  refine meets_pure (F := fe_world_all_api_Door_string) hTh hMx func_world_all_api_Door_string rfl call_world_all_api_Door_string rfl (clo_args hfv) rfl ?_
  conv => whnf
  refine LoopOK.conv (Conv.empOwn 4 rfl (F_world_all_api_Door_string, 18) rfl T_string 1) (LoopOK.weak _ _ ?_ ?_ ?_ (LoopOK.ind (fun i : Nat => xs.length - i)
    (fun i => [(0, .lst 7 (xs.map cDor)), (1, fv), (7, .lst 7 (xs.map cDor)), (8, .int .i64 (xs.map cDor).length), (9, .int .i64 i), (4, .own (F_world_all_api_Door_string, 18) i)]) (fun i => [((F_world_all_api_Door_string, 18), .row T_string 1 ((xs.take i).map fun x => cS (g x)))]) (fun i => i ≤ xs.length) ?_ 0 (by omega)))
  · exact ⟨rfl, rfl, rfl, rfl, rfl, rfl, trivial⟩
  · exact ⟨rfl, trivial⟩
  · exact clo_all hfv (Clo.map (fun x => fS (g x)) _)
  intro i hi IH
  refine LoopOK.round hTh hMx ?_
  conv => whnf
  refine cond_split (fun h => ?_) (fun h => ?_)
  · have hlt := lt_of_dec h
    conv => whnf
    refine IndexTo.at (map_at cDor hlt) ?_
    conv => whnf
    refine CallTo.pure (hf _ (List.getElem_mem hlt)) ?_
    conv => whnf
    refine ⟨by simp; omega, by simp; omega, ?_⟩
    conv => whnf
    refine WrapTo.i64 (by omega) ?_
    conv => whnf
    refine LoopOK.weak _ _ ?_ ?_ ?_ (IH (i + 1) (by omega) (by omega))
    · exact ⟨rfl, rfl, rfl, rfl, rfl, rfl, trivial⟩
    · exact ⟨congrArg (fun z => some (ABox.row T_string 1 z)) (map_succ (f := fun x => cS (g x)) hlt), trivial⟩
    · exact clo_all hfv (Clo.map (fun x => fS (g x)) _)
  · have hge := le_of_dec h
    conv => whnf
    rw [show xs.map (cS ∘ g) = (xs.take i).map (fun x => cS (g x)) from (map_all (f := fun x => cS (g x)) hge).symm]
    exact Fin.own hTh rfl rfl rfl (by simp; omega) (Clo.map (fun x => fS (g x)) _)
theorem m_world_all_api_Door_api_DoorOf (G : GlP) (xs : List Dor) (fv : AV) (g : Dor → DorO) (hf : ∀ x, x ∈ xs → MeetsV Pg G fv [(.agg (cDor x))] [] (.agg (cDorO (g x))) []) (hfv : cloB (fun _ => false) fv = true) (hl : xs.length ≤ 4294967296) :
    Meets Pg G F_world_all_api_Door_api_DoorOf [.lst 7 (xs.map cDor), fv] [] (.lst 6 ((xs.map g).map cDorO)) [] := by
  rw [List.map_map]
  refine meets_pure (F := fe_world_all_api_Door_api_DoorOf) hTh hMx func_world_all_api_Door_api_DoorOf rfl call_world_all_api_Door_api_DoorOf rfl (clo_args hfv) rfl ?_
  conv => whnf
  refine LoopOK.conv (Conv.empOwn 4 rfl (F_world_all_api_Door_api_DoorOf, 18) rfl T_api_DoorOf 6) (LoopOK.weak _ _ ?_ ?_ ?_ (LoopOK.ind (fun i : Nat => xs.length - i)
    (fun i => [(0, .lst 7 (xs.map cDor)), (1, fv), (7, .lst 7 (xs.map cDor)), (8, .int .i64 (xs.map cDor).length), (9, .int .i64 i), (4, .own (F_world_all_api_Door_api_DoorOf, 18) i)]) (fun i => [((F_world_all_api_Door_api_DoorOf, 18), .row T_api_DoorOf 6 ((xs.take i).map fun x => cDorO (g x)))]) (fun i => i ≤ xs.length) ?_ 0 (by omega)))
  · exact ⟨rfl, rfl, rfl, rfl, rfl, rfl, trivial⟩
  · exact ⟨rfl, trivial⟩
  · exact clo_all hfv (Clo.map (fun x => fDorO (g x)) _)
  intro i hi IH
  refine LoopOK.round hTh hMx ?_
  conv => whnf
  refine cond_split (fun h => ?_) (fun h => ?_)
  · have hlt := lt_of_dec h
    conv => whnf
    refine IndexTo.at (map_at cDor hlt) ?_
    conv => whnf
    refine CallTo.pure (hf _ (List.getElem_mem hlt)) ?_
    conv => whnf
    refine ⟨by simp; omega, by simp; omega, ?_⟩
    conv => whnf
    refine WrapTo.i64 (by omega) ?_
    conv => whnf
    refine LoopOK.weak _ _ ?_ ?_ ?_ (IH (i + 1) (by omega) (by omega))
    · exact ⟨rfl, rfl, rfl, rfl, rfl, rfl, trivial⟩
    · exact ⟨congrArg (fun z => some (ABox.row T_api_DoorOf 6 z)) (map_succ (f := fun x => cDorO (g x)) hlt), trivial⟩
    · exact clo_all hfv (Clo.map (fun x => fDorO (g x)) _)
  · have hge := le_of_dec h
    conv => whnf
    rw [show xs.map (cDorO ∘ g) = (xs.take i).map (fun x => cDorO (g x)) from (map_all (f := fun x => cDorO (g x)) hge).symm]
    exact Fin.own hTh rfl rfl rfl (by simp; omega) (Clo.map (fun x => fDorO (g x)) _)
theorem m_world_all_api_Route_string (G : GlP) (xs : List Rte) (fv : AV) (g : Rte → Str) (hf : ∀ x, x ∈ xs → MeetsV Pg G fv [(.agg (cRte x))] [] (.str (g x)) []) (hfv : cloB (fun _ => false) fv = true) (hl : xs.length ≤ 4294967296) :
    Meets Pg G F_world_all_api_Route_string [.lst 4 (xs.map cRte), fv] [] (.lst 1 ((xs.map g).map cS)) [] := by
  rw [List.map_map]
  refine meets_pure (F := fe_world_all_api_Route_string) hTh hMx func_world_all_api_Route_string rfl call_world_all_api_Route_string rfl (clo_args hfv) rfl ?_
  conv => whnf
  refine LoopOK.conv (Conv.empOwn 4 rfl (F_world_all_api_Route_string, 18) rfl T_string 1) (LoopOK.weak _ _ ?_ ?_ ?_ (LoopOK.ind (fun i : Nat => xs.length - i)
    (fun i => [(0, .lst 4 (xs.map cRte)), (1, fv), (7, .lst 4 (xs.map cRte)), (8, .int .i64 (xs.map cRte).length), (9, .int .i64 i), (4, .own (F_world_all_api_Route_string, 18) i)]) (fun i => [((F_world_all_api_Route_string, 18), .row T_string 1 ((xs.take i).map fun x => cS (g x)))]) (fun i => i ≤ xs.length) ?_ 0 (by omega)))
  · exact ⟨rfl, rfl, rfl, rfl, rfl, rfl, trivial⟩
  · exact ⟨rfl, trivial⟩
  · exact clo_all hfv (Clo.map (fun x => fS (g x)) _)
  intro i hi IH
  refine LoopOK.round hTh hMx ?_
  conv => whnf
  refine cond_split (fun h => ?_) (fun h => ?_)
  · have hlt := lt_of_dec h
    conv => whnf
    refine IndexTo.at (map_at cRte hlt) ?_
    conv => whnf
    refine CallTo.pure (hf _ (List.getElem_mem hlt)) ?_
    conv => whnf
    refine ⟨by simp; omega, by simp; omega, ?_⟩
    conv => whnf
    refine WrapTo.i64 (by omega) ?_
    conv => whnf
    refine LoopOK.weak _ _ ?_ ?_ ?_ (IH (i + 1) (by omega) (by omega))
    · exact ⟨rfl, rfl, rfl, rfl, rfl, rfl, trivial⟩
    · exact ⟨congrArg (fun z => some (ABox.row T_string 1 z)) (map_succ (f := fun x => cS (g x)) hlt), trivial⟩
    · exact clo_all hfv (Clo.map (fun x => fS (g x)) _)
  · have hge := le_of_dec h
    conv => whnf
    rw [show xs.map (cS ∘ g) = (xs.take i).map (fun x => cS (g x)) from (map_all (f := fun x => cS (g x)) hge).symm]
    exact Fin.own hTh rfl rfl rfl (by simp; omega) (Clo.map (fun x => fS (g x)) _)
theorem m_world_all_api_Route_api_RouteOf (G : GlP) (xs : List Rte) (fv : AV) (g : Rte → RteO) (hf : ∀ x, x ∈ xs → MeetsV Pg G fv [(.agg (cRte x))] [] (.agg (cRteO (g x))) []) (hfv : cloB (fun _ => false) fv = true) (hl : xs.length ≤ 4294967296) :
    Meets Pg G F_world_all_api_Route_api_RouteOf [.lst 4 (xs.map cRte), fv] [] (.lst 3 ((xs.map g).map cRteO)) [] := by
  rw [List.map_map]
  refine meets_pure (F := fe_world_all_api_Route_api_RouteOf) hTh hMx func_world_all_api_Route_api_RouteOf rfl call_world_all_api_Route_api_RouteOf rfl (clo_args hfv) rfl ?_
  conv => whnf
  refine LoopOK.conv (Conv.empOwn 4 rfl (F_world_all_api_Route_api_RouteOf, 18) rfl T_api_RouteOf 3) (LoopOK.weak _ _ ?_ ?_ ?_ (LoopOK.ind (fun i : Nat => xs.length - i)
    (fun i => [(0, .lst 4 (xs.map cRte)), (1, fv), (7, .lst 4 (xs.map cRte)), (8, .int .i64 (xs.map cRte).length), (9, .int .i64 i), (4, .own (F_world_all_api_Route_api_RouteOf, 18) i)]) (fun i => [((F_world_all_api_Route_api_RouteOf, 18), .row T_api_RouteOf 3 ((xs.take i).map fun x => cRteO (g x)))]) (fun i => i ≤ xs.length) ?_ 0 (by omega)))
  · exact ⟨rfl, rfl, rfl, rfl, rfl, rfl, trivial⟩
  · exact ⟨rfl, trivial⟩
  · exact clo_all hfv (Clo.map (fun x => fRteO (g x)) _)
  intro i hi IH
  refine LoopOK.round hTh hMx ?_
  conv => whnf
  refine cond_split (fun h => ?_) (fun h => ?_)
  · have hlt := lt_of_dec h
    conv => whnf
    refine IndexTo.at (map_at cRte hlt) ?_
    conv => whnf
    refine CallTo.pure (hf _ (List.getElem_mem hlt)) ?_
    conv => whnf
    refine ⟨by simp; omega, by simp; omega, ?_⟩
    conv => whnf
    refine WrapTo.i64 (by omega) ?_
    conv => whnf
    refine LoopOK.weak _ _ ?_ ?_ ?_ (IH (i + 1) (by omega) (by omega))
    · exact ⟨rfl, rfl, rfl, rfl, rfl, rfl, trivial⟩
    · exact ⟨congrArg (fun z => some (ABox.row T_api_RouteOf 3 z)) (map_succ (f := fun x => cRteO (g x)) hlt), trivial⟩
    · exact clo_all hfv (Clo.map (fun x => fRteO (g x)) _)
  · have hge := le_of_dec h
    conv => whnf
    rw [show xs.map (cRteO ∘ g) = (xs.take i).map (fun x => cRteO (g x)) from (map_all (f := fun x => cRteO (g x)) hge).symm]
    exact Fin.own hTh rfl rfl rfl (by simp; omega) (Clo.map (fun x => fRteO (g x)) _)
theorem m_world_all_api_Trip_string (G : GlP) (xs : List Trp) (fv : AV) (g : Trp → Str) (hf : ∀ x, x ∈ xs → MeetsV Pg G fv [(.agg (cTrp x))] [] (.str (g x)) []) (hfv : cloB (fun _ => false) fv = true) (hl : xs.length ≤ 4294967296) :
    Meets Pg G F_world_all_api_Trip_string [.lst 5 (xs.map cTrp), fv] [] (.lst 1 ((xs.map g).map cS)) [] := by
  rw [List.map_map]
  refine meets_pure (F := fe_world_all_api_Trip_string) hTh hMx func_world_all_api_Trip_string rfl call_world_all_api_Trip_string rfl (clo_args hfv) rfl ?_
  conv => whnf
  refine LoopOK.conv (Conv.empOwn 4 rfl (F_world_all_api_Trip_string, 18) rfl T_string 1) (LoopOK.weak _ _ ?_ ?_ ?_ (LoopOK.ind (fun i : Nat => xs.length - i)
    (fun i => [(0, .lst 5 (xs.map cTrp)), (1, fv), (7, .lst 5 (xs.map cTrp)), (8, .int .i64 (xs.map cTrp).length), (9, .int .i64 i), (4, .own (F_world_all_api_Trip_string, 18) i)]) (fun i => [((F_world_all_api_Trip_string, 18), .row T_string 1 ((xs.take i).map fun x => cS (g x)))]) (fun i => i ≤ xs.length) ?_ 0 (by omega)))
  · exact ⟨rfl, rfl, rfl, rfl, rfl, rfl, trivial⟩
  · exact ⟨rfl, trivial⟩
  · exact clo_all hfv (Clo.map (fun x => fS (g x)) _)
  intro i hi IH
  refine LoopOK.round hTh hMx ?_
  conv => whnf
  refine cond_split (fun h => ?_) (fun h => ?_)
  · have hlt := lt_of_dec h
    conv => whnf
    refine IndexTo.at (map_at cTrp hlt) ?_
    conv => whnf
    refine CallTo.pure (hf _ (List.getElem_mem hlt)) ?_
    conv => whnf
    refine ⟨by simp; omega, by simp; omega, ?_⟩
    conv => whnf
    refine WrapTo.i64 (by omega) ?_
    conv => whnf
    refine LoopOK.weak _ _ ?_ ?_ ?_ (IH (i + 1) (by omega) (by omega))
    · exact ⟨rfl, rfl, rfl, rfl, rfl, rfl, trivial⟩
    · exact ⟨congrArg (fun z => some (ABox.row T_string 1 z)) (map_succ (f := fun x => cS (g x)) hlt), trivial⟩
    · exact clo_all hfv (Clo.map (fun x => fS (g x)) _)
  · have hge := le_of_dec h
    conv => whnf
    rw [show xs.map (cS ∘ g) = (xs.take i).map (fun x => cS (g x)) from (map_all (f := fun x => cS (g x)) hge).symm]
    exact Fin.own hTh rfl rfl rfl (by simp; omega) (Clo.map (fun x => fS (g x)) _)
theorem m_world_all_api_Trip_api_TripOf (G : GlP) (xs : List Trp) (fv : AV) (g : Trp → TrpO) (hf : ∀ x, x ∈ xs → MeetsV Pg G fv [(.agg (cTrp x))] [] (.agg (cTrpO (g x))) []) (hfv : cloB (fun _ => false) fv = true) (hl : xs.length ≤ 4294967296) :
    Meets Pg G F_world_all_api_Trip_api_TripOf [.lst 5 (xs.map cTrp), fv] [] (.lst 4 ((xs.map g).map cTrpO)) [] := by
  rw [List.map_map]
  refine meets_pure (F := fe_world_all_api_Trip_api_TripOf) hTh hMx func_world_all_api_Trip_api_TripOf rfl call_world_all_api_Trip_api_TripOf rfl (clo_args hfv) rfl ?_
  conv => whnf
  refine LoopOK.conv (Conv.empOwn 4 rfl (F_world_all_api_Trip_api_TripOf, 18) rfl T_api_TripOf 4) (LoopOK.weak _ _ ?_ ?_ ?_ (LoopOK.ind (fun i : Nat => xs.length - i)
    (fun i => [(0, .lst 5 (xs.map cTrp)), (1, fv), (7, .lst 5 (xs.map cTrp)), (8, .int .i64 (xs.map cTrp).length), (9, .int .i64 i), (4, .own (F_world_all_api_Trip_api_TripOf, 18) i)]) (fun i => [((F_world_all_api_Trip_api_TripOf, 18), .row T_api_TripOf 4 ((xs.take i).map fun x => cTrpO (g x)))]) (fun i => i ≤ xs.length) ?_ 0 (by omega)))
  · exact ⟨rfl, rfl, rfl, rfl, rfl, rfl, trivial⟩
  · exact ⟨rfl, trivial⟩
  · exact clo_all hfv (Clo.map (fun x => fTrpO (g x)) _)
  intro i hi IH
  refine LoopOK.round hTh hMx ?_
  conv => whnf
  refine cond_split (fun h => ?_) (fun h => ?_)
  · have hlt := lt_of_dec h
    conv => whnf
    refine IndexTo.at (map_at cTrp hlt) ?_
    conv => whnf
    refine CallTo.pure (hf _ (List.getElem_mem hlt)) ?_
    conv => whnf
    refine ⟨by simp; omega, by simp; omega, ?_⟩
    conv => whnf
    refine WrapTo.i64 (by omega) ?_
    conv => whnf
    refine LoopOK.weak _ _ ?_ ?_ ?_ (IH (i + 1) (by omega) (by omega))
    · exact ⟨rfl, rfl, rfl, rfl, rfl, rfl, trivial⟩
    · exact ⟨congrArg (fun z => some (ABox.row T_api_TripOf 4 z)) (map_succ (f := fun x => cTrpO (g x)) hlt), trivial⟩
    · exact clo_all hfv (Clo.map (fun x => fTrpO (g x)) _)
  · have hge := le_of_dec h
    conv => whnf
    rw [show xs.map (cTrpO ∘ g) = (xs.take i).map (fun x => cTrpO (g x)) from (map_all (f := fun x => cTrpO (g x)) hge).symm]
    exact Fin.own hTh rfl rfl rfl (by simp; omega) (Clo.map (fun x => fTrpO (g x)) _)
theorem m_world_all_api_Hazard_string (G : GlP) (xs : List Hzd) (fv : AV) (g : Hzd → Str) (hf : ∀ x, x ∈ xs → MeetsV Pg G fv [(.agg (cHzd x))] [] (.str (g x)) []) (hfv : cloB (fun _ => false) fv = true) (hl : xs.length ≤ 4294967296) :
    Meets Pg G F_world_all_api_Hazard_string [.lst 5 (xs.map cHzd), fv] [] (.lst 1 ((xs.map g).map cS)) [] := by
  rw [List.map_map]
  refine meets_pure (F := fe_world_all_api_Hazard_string) hTh hMx func_world_all_api_Hazard_string rfl call_world_all_api_Hazard_string rfl (clo_args hfv) rfl ?_
  conv => whnf
  refine LoopOK.conv (Conv.empOwn 4 rfl (F_world_all_api_Hazard_string, 18) rfl T_string 1) (LoopOK.weak _ _ ?_ ?_ ?_ (LoopOK.ind (fun i : Nat => xs.length - i)
    (fun i => [(0, .lst 5 (xs.map cHzd)), (1, fv), (7, .lst 5 (xs.map cHzd)), (8, .int .i64 (xs.map cHzd).length), (9, .int .i64 i), (4, .own (F_world_all_api_Hazard_string, 18) i)]) (fun i => [((F_world_all_api_Hazard_string, 18), .row T_string 1 ((xs.take i).map fun x => cS (g x)))]) (fun i => i ≤ xs.length) ?_ 0 (by omega)))
  · exact ⟨rfl, rfl, rfl, rfl, rfl, rfl, trivial⟩
  · exact ⟨rfl, trivial⟩
  · exact clo_all hfv (Clo.map (fun x => fS (g x)) _)
  intro i hi IH
  refine LoopOK.round hTh hMx ?_
  conv => whnf
  refine cond_split (fun h => ?_) (fun h => ?_)
  · have hlt := lt_of_dec h
    conv => whnf
    refine IndexTo.at (map_at cHzd hlt) ?_
    conv => whnf
    refine CallTo.pure (hf _ (List.getElem_mem hlt)) ?_
    conv => whnf
    refine ⟨by simp; omega, by simp; omega, ?_⟩
    conv => whnf
    refine WrapTo.i64 (by omega) ?_
    conv => whnf
    refine LoopOK.weak _ _ ?_ ?_ ?_ (IH (i + 1) (by omega) (by omega))
    · exact ⟨rfl, rfl, rfl, rfl, rfl, rfl, trivial⟩
    · exact ⟨congrArg (fun z => some (ABox.row T_string 1 z)) (map_succ (f := fun x => cS (g x)) hlt), trivial⟩
    · exact clo_all hfv (Clo.map (fun x => fS (g x)) _)
  · have hge := le_of_dec h
    conv => whnf
    rw [show xs.map (cS ∘ g) = (xs.take i).map (fun x => cS (g x)) from (map_all (f := fun x => cS (g x)) hge).symm]
    exact Fin.own hTh rfl rfl rfl (by simp; omega) (Clo.map (fun x => fS (g x)) _)
theorem m_world_all_api_Hazard_api_HazardOf (G : GlP) (xs : List Hzd) (fv : AV) (g : Hzd → HzdO) (hf : ∀ x, x ∈ xs → MeetsV Pg G fv [(.agg (cHzd x))] [] (.agg (cHzdO (g x))) []) (hfv : cloB (fun _ => false) fv = true) (hl : xs.length ≤ 4294967296) :
    Meets Pg G F_world_all_api_Hazard_api_HazardOf [.lst 5 (xs.map cHzd), fv] [] (.lst 5 ((xs.map g).map cHzdO)) [] := by
  rw [List.map_map]
  refine meets_pure (F := fe_world_all_api_Hazard_api_HazardOf) hTh hMx func_world_all_api_Hazard_api_HazardOf rfl call_world_all_api_Hazard_api_HazardOf rfl (clo_args hfv) rfl ?_
  conv => whnf
  refine LoopOK.conv (Conv.empOwn 4 rfl (F_world_all_api_Hazard_api_HazardOf, 18) rfl T_api_HazardOf 5) (LoopOK.weak _ _ ?_ ?_ ?_ (LoopOK.ind (fun i : Nat => xs.length - i)
    (fun i => [(0, .lst 5 (xs.map cHzd)), (1, fv), (7, .lst 5 (xs.map cHzd)), (8, .int .i64 (xs.map cHzd).length), (9, .int .i64 i), (4, .own (F_world_all_api_Hazard_api_HazardOf, 18) i)]) (fun i => [((F_world_all_api_Hazard_api_HazardOf, 18), .row T_api_HazardOf 5 ((xs.take i).map fun x => cHzdO (g x)))]) (fun i => i ≤ xs.length) ?_ 0 (by omega)))
  · exact ⟨rfl, rfl, rfl, rfl, rfl, rfl, trivial⟩
  · exact ⟨rfl, trivial⟩
  · exact clo_all hfv (Clo.map (fun x => fHzdO (g x)) _)
  intro i hi IH
  refine LoopOK.round hTh hMx ?_
  conv => whnf
  refine cond_split (fun h => ?_) (fun h => ?_)
  · have hlt := lt_of_dec h
    conv => whnf
    refine IndexTo.at (map_at cHzd hlt) ?_
    conv => whnf
    refine CallTo.pure (hf _ (List.getElem_mem hlt)) ?_
    conv => whnf
    refine ⟨by simp; omega, by simp; omega, ?_⟩
    conv => whnf
    refine WrapTo.i64 (by omega) ?_
    conv => whnf
    refine LoopOK.weak _ _ ?_ ?_ ?_ (IH (i + 1) (by omega) (by omega))
    · exact ⟨rfl, rfl, rfl, rfl, rfl, rfl, trivial⟩
    · exact ⟨congrArg (fun z => some (ABox.row T_api_HazardOf 5 z)) (map_succ (f := fun x => cHzdO (g x)) hlt), trivial⟩
    · exact clo_all hfv (Clo.map (fun x => fHzdO (g x)) _)
  · have hge := le_of_dec h
    conv => whnf
    rw [show xs.map (cHzdO ∘ g) = (xs.take i).map (fun x => cHzdO (g x)) from (map_all (f := fun x => cHzdO (g x)) hge).symm]
    exact Fin.own hTh rfl rfl rfl (by simp; omega) (Clo.map (fun x => fHzdO (g x)) _)
end Go.Proofs.YtelpibkbcljdlaaGreatDoor
/- Ticks, words: the contracts of tick.Check, lex.Name and what they call, and of the document's own. -/
set_option linter.unusedVariables false
set_option linter.unusedSimpArgs false
set_option maxRecDepth 10000
namespace Go.Ab
def tickOK (n : Int) : Bool := decide (0 ≤ n) && decide (n ≤ 1099511627776)
def letB (n : Int) : Bool := decide (97 ≤ n) && decide (n ≤ 122)
def digB (n : Int) : Bool := decide (48 ≤ n) && decide (n ≤ 57)
def moreB (n : Int) : Bool := letB n || digB n || (n == 45) || (n == 95)
def cls (n : Int) : Int := if letB n then 1 else if digB n then 2 else if (n == 45) || (n == 95) then 3 else 0
theorem cls_more (n : Int) : (cls n != 0) = moreB n := by
  unfold cls moreB
  cases letB n <;> cases digB n <;> cases h : (n == 45) <;> cases h' : (n == 95) <;> rfl
theorem cls_let (n : Int) : (cls n != 1) = !letB n := by
  unfold cls
  cases letB n <;> cases digB n <;> cases h : (n == 45) <;> cases h' : (n == 95) <;> rfl
def words : List Str := ["horizon", "stop", "path", "door", "route", "trip", "hazard", "from", "every", "open", "closed", "of", "on", "until", "stay"].map fun s => s.toByteArray.data.toList
def ub (c : UInt8) : Int := (c.toNat : Int)
def runLen (q : Int → Bool) (s : Str) : Nat := (s.takeWhile fun c => q (cls (ub c))).length
def wordOK (s : Str) : Bool := match s with
  | [] => false
  | c :: r => decide (r.length < 24) && letB (ub c) && (c :: r).all fun c => moreB (ub c)
def nameOK (s : Str) : Bool := wordOK s && !words.contains s
end Go.Ab
namespace Go.Proofs.YtelpibkbcljdlaaGreatDoor
open Go Go.Ab
def ResOK (G : GlP) : Prop := Meets Pg G F_lex_Reserved [] [] .dead []
theorem m_within (G : GlP) (a x b : Int) : Meets Pg G F_tick_within_int64 [.int .i64 a, .int .i64 x, .int .i64 b] [] (.bool (decide (a ≤ x) && decide (x ≤ b))) [] := by
  refine meets_pure (F := fe_tick_within_int64) hTh hMx func_tick_within_int64 rfl call_tick_within_int64 rfl rfl rfl ?_
  conv => whnf
  refine cond_split (fun h => ?_) (fun h => ?_)
  · conv => whnf
    have h' : ¬ a ≤ x := by simpa using h
    exact Fin.one hTh rfl (by simp [getT, ofValue, h']) rfl
  · conv => whnf
    have h' : a ≤ x := by simpa using h
    exact Fin.one hTh rfl (by simp [getT, h']) rfl
theorem m_tick_Check (G : GlP) (n : Int) : Meets Pg G F_tick_Check [.int .i64 n] [] (.int .i64 (if tickOK n then 0 else 9)) [] := by
  refine meets_pure (F := fe_tick_Check) hTh hMx func_tick_Check rfl call_tick_Check rfl rfl rfl ?_
  conv => whnf
  refine CallTo.fn (m_within G _ _ _) ?_
  conv => whnf
  refine cond_split (fun h => ?_) (fun h => ?_)
  · conv => whnf
    have h' : tickOK n = false := by simp [tickOK] at h ⊢; omega
    exact Fin.one hTh rfl (by simp [getT, ofValue, h']) rfl
  · conv => whnf
    have h' : tickOK n = true := by simpa [tickOK] using h
    exact Fin.one hTh rfl (by simp [getT, ofValue, h']) rfl
theorem m_ref01_Check (G : GlP) (n : Int) : Meets Pg G F_ref01_Check [.int .i64 n] [] (.int .i64 (if tickOK n then 0 else 9)) [] := by
  refine meets_pure (F := fe_ref01_Check) hTh hMx func_ref01_Check rfl call_ref01_Check rfl rfl rfl ?_
  conv => whnf
  refine cond_split (fun h => ?_) (fun h => ?_)
  · conv => whnf
    have h' : tickOK n = false := by simp [tickOK] at h ⊢; omega
    exact Fin.one hTh rfl (by simp [getT, ofValue, h']) rfl
  · conv => whnf
    refine cond_split (fun h2 => ?_) (fun h2 => ?_)
    · conv => whnf
      have h' : tickOK n = false := by simp [tickOK] at h h2 ⊢; omega
      exact Fin.one hTh rfl (by simp [getT, ofValue, h']) rfl
    · conv => whnf
      have h' : tickOK n = true := by simp [tickOK] at h h2 ⊢; omega
      exact Fin.one hTh rfl (by simp [getT, ofValue, h']) rfl
theorem m_ref04_letter (G : GlP) (n : Int) : Meets Pg G F_ref04_letter [.int .u8 n] [] (.bool (letB n)) [] := by
  refine meets_pure (F := fe_ref04_letter) hTh hMx func_ref04_letter rfl call_ref04_letter rfl rfl rfl ?_
  conv => whnf
  refine cond_split (fun h => ?_) (fun h => ?_)
  · conv => whnf
    exact Fin.one hTh rfl (by simp [getT, letB] at h ⊢; simp [h]) rfl
  · conv => whnf
    exact Fin.one hTh rfl (by simp [getT, letB] at h ⊢; omega) rfl
theorem m_ref04_digit (G : GlP) (n : Int) : Meets Pg G F_ref04_digit [.int .u8 n] [] (.bool (digB n)) [] := by
  refine meets_pure (F := fe_ref04_digit) hTh hMx func_ref04_digit rfl call_ref04_digit rfl rfl rfl ?_
  conv => whnf
  refine cond_split (fun h => ?_) (fun h => ?_)
  · conv => whnf
    exact Fin.one hTh rfl (by simp [getT, digB] at h ⊢; simp [h]) rfl
  · conv => whnf
    exact Fin.one hTh rfl (by simp [getT, digB] at h ⊢; omega) rfl
theorem m_lex_class (G : GlP) (n : Int) : Meets Pg G F_lex_class [.int .u8 n] [] (.int .i64 (cls n)) [] := by
  refine meets_pure (F := fe_lex_class) hTh hMx func_lex_class rfl call_lex_class rfl rfl rfl ?_
  conv => whnf
  iterate 8 (all_goals (try (refine cond_split (fun _ => ?_) (fun _ => ?_) <;> (conv => whnf))))
  all_goals (refine Fin.one hTh rfl ?_ rfl)
  all_goals (simp_all [getT, ofValue, cls, letB, digB] <;> grind)
theorem m_ref04_more (G : GlP) (n : Int) : Meets Pg G F_ref04_more [.int .u8 n] [] (.bool (moreB n)) [] := by
  refine meets_pure (F := fe_ref04_more) hTh hMx func_ref04_more rfl call_ref04_more rfl rfl rfl ?_
  conv => whnf
  refine CallTo.fn (m_ref04_letter G _) ?_
  conv => whnf
  refine cond_split (fun h => ?_) (fun h => ?_)
  · conv => whnf
    iterate 8 (all_goals (try (refine cond_split (fun _ => ?_) (fun _ => ?_) <;> (conv => whnf))))
    all_goals (refine Fin.one hTh rfl ?_ rfl)
    all_goals (simp_all [getT, moreB])
  · conv => whnf
    refine CallTo.fn (m_ref04_digit G _) ?_
    conv => whnf
    iterate 8 (all_goals (try (refine cond_split (fun _ => ?_) (fun _ => ?_) <;> (conv => whnf))))
    all_goals (refine Fin.one hTh rfl ?_ rfl)
    all_goals (simp_all [getT, moreB])
theorem m_lex_Name_1 (G : GlP) (n : Int) : Meets Pg G F_lex_Name_1 [.int .i64 n] [] (.bool (n != 0)) [] := by
  refine meets_pure (F := fe_lex_Name_1) hTh hMx func_lex_Name_1 rfl call_lex_Name_1 rfl rfl rfl ?_
  conv => whnf
  exact Fin.one hTh rfl (rfl) rfl
theorem takeWhile_len {p : UInt8 → Bool} : ∀ {s : Str} {i : Nat}, (∀ c ∈ s.take i, p c = true) → i ≤ s.length → (s.length ≤ i ∨ ∃ h : i < s.length, p s[i] = false) → (s.takeWhile p).length = i
  | [], i, h, hi, he => by simp at hi; subst hi; rfl
  | c :: s, 0, h, hi, he => by
    rcases he with he | ⟨_, he⟩
    · simp at he
    · simp at he; simp [he]
  | c :: s, i + 1, h, hi, he => by
    have hc : p c = true := h c (by simp)
    simp only [List.takeWhile_cons, hc, if_true, List.length_cons]
    rw [takeWhile_len (i := i) (fun d hd => h d (by simp [hd])) (by simpa using hi) (by simpa using he)]
theorem all_succ {α : Type} {p : α → Bool} {xs : List α} {i : Nat} (hb : ∀ x ∈ xs.take i, p x = true) (h : i < xs.length) (he : p xs[i] = true) : ∀ x ∈ xs.take (i + 1), p x = true := by
  intro x hx
  rw [List.take_succ_eq_append_getElem h, List.mem_append, List.mem_singleton] at hx
  rcases hx with hx | rfl
  · exact hb x hx
  · exact he
theorem takeWhile_all {p : UInt8 → Bool} : ∀ (s : Str), (((s.takeWhile p).length : Int) == (s.length : Int)) = s.all p
  | [] => rfl
  | c :: s => by
    have ih := takeWhile_all (p := p) s
    cases h : p c with
    | false => simp [List.takeWhile_cons, h]; omega
    | true =>
      simp only [List.takeWhile_cons, h, if_true, List.length_cons, List.all_cons, Bool.true_and]
      rw [← ih, Bool.eq_iff_iff]
      simp
theorem m_lex_run (G : GlP) (s : Str) (fv : AV) (q : Int → Bool) (hf : ∀ k, MeetsV Pg G fv [.int .i64 k] [] (.bool (q k)) []) (hfv : cloB (fun _ => false) fv = true) (hl : s.length ≤ 9223372036854775807) : Meets Pg G F_lex_run [.str s, fv] [] (.int .i64 (runLen q s)) [] := by
  refine meets_pure (F := fe_lex_run) hTh hMx func_lex_run rfl call_lex_run rfl (by simp [cloL, cloB, cloB_free hfv]) rfl ?_
  conv => whnf
  refine LoopOK.weak _ _ ?_ ?_ ?_ (LoopOK.ind (fun i : Nat => s.length - i) (fun i => [(0, .str s), (1, fv), (5, .int .i64 i)]) (fun _ => []) (fun i => i ≤ s.length ∧ ∀ c ∈ s.take i, q (cls (ub c)) = true) ?_ 0 ⟨by omega, by simp⟩)
  · exact ⟨rfl, rfl, rfl, trivial⟩
  · trivial
  · simp [cloChk, cloB, cloB_free hfv]
  intro i ⟨hi, hb⟩ IH
  refine LoopOK.round hTh hMx ?_
  conv => whnf
  refine cond_split (fun h => ?_) (fun h => ?_)
  · have hlt : i < s.length := by simpa using h
    conv => whnf
    refine ByteTo.at (List.getElem?_eq_getElem hlt) ?_
    conv => whnf
    refine CallTo.fn (m_lex_class G _) ?_
    conv => whnf
    refine CallTo.pure (hf _) ?_
    conv => whnf
    refine cond_split (fun he => ?_) (fun he => ?_)
    · conv => whnf
      refine WrapTo.i64 (by omega) ?_
      conv => whnf
      refine LoopOK.weak _ _ ?_ ?_ ?_ (IH (i + 1) (by omega) ⟨by omega, all_succ hb hlt he⟩)
      · exact ⟨rfl, rfl, rfl, trivial⟩
      · trivial
      · simp [cloChk, cloB, cloB_free hfv]
    · conv => whnf
      exact Fin.one hTh rfl (congrArg (fun n : Nat => AV.int .i64 (n : Int)) (takeWhile_len (p := fun c => q (cls (ub c))) hb hi (.inr ⟨hlt, he⟩)).symm) rfl
  · have hge : s.length ≤ i := by simpa using h
    conv => whnf
    exact Fin.one hTh rfl (congrArg (fun n : Nat => AV.int .i64 (n : Int)) (takeWhile_len (p := fun c => q (cls (ub c))) hb hi (.inl hge)).symm) rfl
theorem m_ref04_Reserved (G : GlP) (s : Str) : Meets Pg G F_ref04_Reserved [.str s] [] (.bool (words.contains s)) [] := by
  have hw : words.length = 15 := rfl
  refine meets_pure (F := fe_ref04_Reserved) hTh hMx func_ref04_Reserved rfl call_ref04_Reserved rfl rfl rfl ?_
  conv => whnf
  refine LoopOK.weak _ _ ?_ ?_ ?_ (LoopOK.ind (fun i : Nat => words.length - i) (fun i => [(0, .str s), (3, .lst 1 (words.map cS)), (4, .int .i64 i)]) (fun _ => []) (fun i => i ≤ words.length ∧ ∀ x ∈ words.take i, (x == s) = false) ?_ 0 ⟨by omega, by simp⟩)
  · exact ⟨rfl, rfl, rfl, trivial⟩
  · trivial
  · rfl
  intro i ⟨hi, hb⟩ IH
  refine LoopOK.round hTh hMx ?_
  conv => whnf
  refine cond_split (fun h => ?_) (fun h => ?_)
  · have hlt := lt_of_dec h
    conv => whnf
    refine IndexTo.at (map_at cS hlt) ?_
    conv => whnf
    refine cond_split (fun he => ?_) (fun he => ?_)
    · conv => whnf
      exact Fin.one hTh rfl (congrArg AV.bool (List.contains_iff_mem.2 (by have := List.getElem_mem hlt; rwa [beq_iff_eq.1 he] at this)).symm) rfl
    · conv => whnf
      refine WrapTo.i64 (by omega) ?_
      conv => whnf
      refine LoopOK.weak _ _ ?_ ?_ ?_ (IH (i + 1) (by omega) ⟨by omega, none_succ hb hlt he⟩)
      · exact ⟨rfl, rfl, rfl, trivial⟩
      · trivial
      · rfl
  · have hge := le_of_dec h
    conv => whnf
    have hn : s ∉ words := fun hm => by have := none_all hb hge s hm; simp at this
    exact Fin.one hTh rfl (congrArg AV.bool (by simpa using hn : words.contains s = false).symm) rfl
theorem m_ref04_word (G : GlP) (s : Str) (hl : s.length ≤ 9223372036854775807) : Meets Pg G F_ref04_word [.str s] [] (.bool (wordOK s)) [] := by
  match s with
  | [] =>
    refine meets_pure (F := fe_ref04_word) hTh hMx func_ref04_word rfl call_ref04_word rfl rfl rfl ?_
    conv => whnf
    exact Fin.one hTh rfl (rfl) rfl
  | c :: r =>
  have e0 : (((c :: r).length : Nat) : Int) = (r.length : Int) + 1 := by simp
  refine meets_pure (F := fe_ref04_word) hTh hMx func_ref04_word rfl call_ref04_word rfl rfl rfl ?_
  conv => whnf
  refine cond_split (fun h1 => ?_) (fun h1 => ?_)
  · conv => whnf
    have : wordOK (c :: r) = false := by simp [wordOK]; simp at h1; intro; omega
    exact Fin.one hTh rfl (by simp [getT, ofValue, this]) rfl
  conv => whnf
  have hr : r.length < 24 := by simp at h1; omega
  refine ByteTo.at (i := 0) (c := c) rfl ?_
  conv => whnf
  refine CallTo.fn (m_ref04_letter G _) ?_
  conv => whnf
  refine cond_split (fun h2 => ?_) (fun h2 => ?_)
  · conv => whnf
    have : wordOK (c :: r) = false := by have h2 : letB (ub c) = false := by simpa [ub] using h2
                                         simp [wordOK, h2]
    exact Fin.one hTh rfl (by simp [getT, ofValue, this]) rfl
  conv => whnf
  have h2 : letB (ub c) = true := by simpa [ub] using h2
  refine LoopOK.weak _ _ ?_ ?_ ?_ (LoopOK.ind (fun i : Nat => (c :: r).length - i) (fun i => [(0, .str (c :: r)), (3, .int .i64 i)]) (fun _ => []) (fun i => i ≤ (c :: r).length ∧ ∀ x ∈ (c :: r).take i, moreB (ub x) = true) ?_ 0 ⟨by omega, by simp⟩)
  · exact ⟨rfl, rfl, trivial⟩
  · trivial
  · rfl
  intro i ⟨hi, hb⟩ IH
  refine LoopOK.round hTh hMx ?_
  conv => whnf
  refine cond_split (fun h => ?_) (fun h => ?_)
  · have hlt : i < (c :: r).length := by simp at h ⊢; omega
    conv => whnf
    refine ByteTo.at (List.getElem?_eq_getElem hlt) ?_
    conv => whnf
    refine CallTo.fn (m_ref04_more G _) ?_
    conv => whnf
    refine cond_split (fun he => ?_) (fun he => ?_)
    · conv => whnf
      have : wordOK (c :: r) = false := by
        have hm : (c :: r)[i] ∈ c :: r := List.getElem_mem hlt
        have hv : moreB (ub (c :: r)[i]) = false := by simpa [ub] using he
        have : (c :: r).all (fun c => moreB (ub c)) = false := by rw [List.all_eq_false]; exact ⟨_, hm, by simp [hv]⟩
        simp only [wordOK, this, Bool.and_false]
      exact Fin.one hTh rfl (by simp [getT, ofValue, this]) rfl
    · conv => whnf
      refine WrapTo.i64 (by omega) ?_
      conv => whnf
      refine LoopOK.weak _ _ ?_ ?_ ?_ (IH (i + 1) (by omega) ⟨by omega, all_succ hb hlt (by simpa [ub] using he)⟩)
      · exact ⟨rfl, rfl, trivial⟩
      · trivial
      · rfl
  · have hge : (c :: r).length ≤ i := by simp at h ⊢; omega
    conv => whnf
    have : wordOK (c :: r) = true := by
      rw [List.take_of_length_le hge] at hb
      have : (c :: r).all (fun c => moreB (ub c)) = true := List.all_eq_true.2 hb
      simp only [wordOK, this, h2, hr, decide_true, Bool.and_self]
    exact Fin.one hTh rfl (by simp [getT, ofValue, this]) rfl
theorem m_ref04_Name (G : GlP) (s : Str) (hl : s.length ≤ 9223372036854775807) : Meets Pg G F_ref04_Name [.str s] [] (.bool (nameOK s)) [] := by
  refine meets_pure (F := fe_ref04_Name) hTh hMx func_ref04_Name rfl call_ref04_Name rfl rfl rfl ?_
  conv => whnf
  refine CallTo.fn (m_ref04_word G s hl) ?_
  conv => whnf
  refine cond_split (fun h => ?_) (fun h => ?_)
  · conv => whnf
    refine CallTo.fn (m_ref04_Reserved G s) ?_
    conv => whnf
    exact Fin.one hTh rfl (by simp only [getT, nameOK, h]; rfl) rfl
  · conv => whnf
    exact Fin.one hTh rfl (by simp only [getT, nameOK, h]; rfl) rfl
/-- What is asked of strings.Fields: the document's words. -/
def Res (G : GlP) : Prop := ∀ s, Meets Pg G F_lex_Reserved [.str s] [] (.bool (words.contains s)) []
theorem m_lex_Name (G : GlP) (hR : Res G) (s : Str) (hl : s.length ≤ 9223372036854775807) : Meets Pg G F_lex_Name [.str s] [] (.bool (nameOK s)) [] := by
  match s with
  | [] =>
    refine meets_pure (F := fe_lex_Name) hTh hMx func_lex_Name rfl call_lex_Name rfl rfl rfl ?_
    conv => whnf
    exact Fin.one hTh rfl (rfl) rfl
  | c :: r =>
  refine meets_pure (F := fe_lex_Name) hTh hMx func_lex_Name rfl call_lex_Name rfl rfl rfl ?_
  conv => whnf
  refine cond_split (fun h1 => ?_) (fun h1 => ?_)
  · conv => whnf
    have : nameOK (c :: r) = false := by simp [nameOK, wordOK]; simp at h1; intro; omega
    exact Fin.one hTh rfl (by simp [getT, ofValue, this]) rfl
  conv => whnf
  have hr : r.length < 24 := by simp at h1; omega
  refine ByteTo.at (i := 0) (c := c) rfl ?_
  conv => whnf
  refine CallTo.fn (m_lex_class G _) ?_
  conv => whnf
  refine cond_split (fun h2 => ?_) (fun h2 => ?_)
  · conv => whnf
    have h2 : letB (ub c) = false := by rw [cls_let] at h2; simpa [ub] using h2
    have : nameOK (c :: r) = false := by simp [nameOK, wordOK, h2]
    exact Fin.one hTh rfl (by simp [getT, ofValue, this]) rfl
  have h2 : letB (ub c) = true := by rw [cls_let] at h2; simpa [ub] using h2
  conv => whnf
  refine CallTo.fn (hR _) ?_
  conv => whnf
  refine cond_split (fun h3 => ?_) (fun h3 => ?_)
  · conv => whnf
    have : nameOK (c :: r) = false := by simp only [nameOK, h3]; simp
    exact Fin.one hTh rfl (by simp [getT, ofValue, this]) rfl
  conv => whnf
  refine CallTo.fn (m_lex_run G (c :: r) _ (fun k => k != 0) (fun k => MeetsV.of (m_lex_Name_1 G k)) rfl hl) ?_
  conv => whnf
  have : nameOK (c :: r) = ((runLen (fun k => k != 0) (c :: r) : Int) == ((c :: r).length : Int)) := by
    simp only [runLen, cls_more, takeWhile_all]
    simp only [nameOK, h3, wordOK, h2, hr, decide_true, Bool.true_and, Bool.not_false, Bool.and_true]
  exact Fin.one hTh rfl (by rw [this]; rfl) rfl
end Go.Proofs.YtelpibkbcljdlaaGreatDoor
