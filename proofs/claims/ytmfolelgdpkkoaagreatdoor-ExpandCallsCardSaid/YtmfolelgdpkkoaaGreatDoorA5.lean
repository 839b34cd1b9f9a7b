/- The framework of abstract states, part 15: small words more. -/
import Derived.Test.YtmfolelgdpkkoaaGreatDoorA4
set_option linter.unusedVariables false
set_option linter.unusedSimpArgs false
namespace Go.Ab
def Clo (xs : List (List AV)) : Prop := cloL (fun _ => false) xs.flatten = true
theorem Clo.nil : Clo [] := rfl
theorem cloL_append {D : Lbl → Bool} : ∀ {as1 bs : List AV}, cloL D (as1 ++ bs) = (cloL D as1 && cloL D bs)
  | [], bs => by simp [cloL]
  | a :: as1, bs => by simp [cloL, cloL_append, Bool.and_assoc]
theorem Clo.append {xs ys : List (List AV)} (h : Clo xs) (h' : Clo ys) : Clo (xs ++ ys) := by
  unfold Clo at *
  rw [List.flatten_append, cloL_append, h, h']
  rfl
theorem Clo.map {α : Type} {f : α → List AV} (hf : ∀ a, cloL (fun _ => false) (f a) = true) (l : List α) : Clo (l.map f) := by
  induction l with
  | nil => rfl
  | cons a l ih =>
    unfold Clo at *
    rw [List.map_cons, List.flatten_cons, cloL_append, hf, ih]
    rfl
theorem map_at {α : Type} (f : α → List AV) {xs : List α} {i : Nat} (h : i < xs.length) : (xs.map f)[i]? = some (f xs[i]) := by simp [h]
theorem lt_of_dec {α : Type} {f : α → List AV} {xs : List α} {i : Nat} (h : decide ((i : Int) < ((xs.map f).length : Int)) = true) : i < xs.length := by
  simpa using h
theorem le_of_dec {α : Type} {f : α → List AV} {xs : List α} {i : Nat} (h : decide ((i : Int) < ((xs.map f).length : Int)) = false) : xs.length ≤ i := by
  simpa using h
theorem len_of_dec {α β : Type} {f : α → List AV} {g : β → List AV} {xs : List α} {ys : List β} (h : (((xs.map f).length : Int) != ((ys.map g).length : Int)) = false) : xs.length = ys.length := by
  have := h
  simp at this
  omega
theorem ne_of_dec {α : Type} {f : α → List AV} {xs ys : List α} (h : (((xs.map f).length : Int) != ((ys.map f).length : Int)) = true) : xs ≠ ys := fun e => by
  subst e
  simp at h
theorem ne_of_get {α : Type} {xs ys : List α} {i : Nat} (h1 : i < xs.length) (h2 : i < ys.length) (h : xs[i] ≠ ys[i]) : xs ≠ ys := fun e => by
  subst e
  exact h rfl
theorem beq_dec {α : Type} [BEq α] [LawfulBEq α] [DecidableEq α] (a b : α) : (a == b) = decide (a = b) := by
  rw [Bool.eq_iff_iff]
  simp
theorem AV.no {p : Prop} [Decidable p] (h : ¬ p) : AV.bool false = AV.bool (decide p) := congrArg AV.bool (decide_eq_false h).symm
theorem AV.yes {p : Prop} [Decidable p] (h : p) : AV.bool true = AV.bool (decide p) := congrArg AV.bool (decide_eq_true h).symm
theorem dec_no {p : Prop} [Decidable p] (h : (!decide p) = true) : ¬ p := by simpa using h
theorem dec_yes {p : Prop} [Decidable p] (h : (!decide p) = false) : p := by simpa using h
theorem take_eq_succ {α : Type} {xs ys : List α} {i : Nat} (h : xs.take i = ys.take i) (h1 : i < xs.length) (h2 : i < ys.length) (he : xs[i] = ys[i]) : xs.take (i + 1) = ys.take (i + 1) := by
  rw [List.take_succ_eq_append_getElem h1, List.take_succ_eq_append_getElem h2, h, he]
theorem take_eq_all {α : Type} {xs ys : List α} {i : Nat} (h : xs.take i = ys.take i) (h1 : xs.length ≤ i) (h2 : xs.length = ys.length) : xs = ys := by
  rwa [List.take_of_length_le h1, List.take_of_length_le (by omega)] at h

/-- What a row of the call's own is handed back as: a list that nobody writes any more. -/
theorem Fin.own {P : Program} {G : GlP} {F : FE} (hΘ : TTok P F.Θ) {fn : Func} {t : Nat} {l : Lbl} {n sz : Nat} {e : TypeId} {xs : List (List AV)} {T : TL} {L : BL} (hres : fn.results.toList = [.tmp t]) (hT : getT T t = .own l n) (hL : getL L l = some (.row e sz xs))
    (hn : xs.length = n) (hc : Clo xs) : Fin P G F [] fn (.lst sz xs) [] T L := by
  refine Fin.less [(l, .row e sz xs)] [(t, .lst sz xs)] [] ⟨?_, trivial⟩ trivial ⟨hL, hc, rfl, trivial⟩ rfl (Fin.pure hΘ [.lst sz xs] ?_ rfl rfl)
  · rw [hT]
    exact .own List.mem_cons_self hn
  · rw [hres]
    simp [resA, getT]
theorem Fin.emp {P : Program} {G : GlP} {F : FE} (hΘ : TTok P F.Θ) {fn : Func} {t sz : Nat} {T : TL} {L : BL} (hres : fn.results.toList = [.tmp t]) (hT : getT T t = .emp) : Fin P G F [] fn (.lst sz []) [] T L := by
  refine Fin.less [] [(t, .lst sz [])] [] ⟨?_, trivial⟩ trivial trivial rfl (Fin.pure hΘ [.lst sz []] ?_ rfl rfl)
  · rw [hT]
    exact .emp sz
  · rw [hres]
    simp [resA, getT]
theorem Fin.one {P : Program} {G : GlP} {F : FE} (hΘ : TTok P F.Θ) {fn : Func} {t : Nat} {r : AV} {T : TL} {L : BL} (hres : fn.results.toList = [.tmp t]) (hT : getT T t = r) (hc : cloB (keyB []) r = true) : Fin P G F [] fn r [] T L := by
  refine Fin.pure hΘ [r] ?_ rfl hc
  rw [hres]
  simp [resA, hT]
end Go.Ab
namespace Go.Ab
mutual
theorem cloB_mono {D D' : Lbl → Bool} (h : ∀ l, D l = true → D' l = true) : ∀ (a : AV), cloB D a = true → cloB D' a = true
  | .own l n, ha => h _ ha
  | .ref l n, ha => h _ ha
  | .rp l n o, ha => h _ ha
  | .mp l, ha => h _ ha
  | .yv l, ha => h _ ha
  | .agg cs, ha => by simp only [cloB] at ha ⊢; exact cloL_mono h cs ha
  | .fn f a b, ha => by simp only [cloB, Bool.and_eq_true] at ha ⊢; exact ⟨cloL_mono h a ha.1, cloL_mono h b ha.2⟩
  | .iface t v, ha => by simp only [cloB] at ha ⊢; exact cloB_mono h v ha
  | .tup vs, ha => by simp only [cloB] at ha ⊢; exact cloL_mono h vs ha
  | .int k n, ha => rfl
  | .bool b, ha => rfl
  | .ub, ha => rfl
  | .str s, ha => rfl
  | .lst sz xs, ha => rfl
  | .emp, ha => rfl
  | .pp cs, ha => rfl
  | .nilp, ha => rfl
  | .nilf, ha => rfl
  | .nili, ha => rfl
  | .nilm, ha => rfl
  | .gp g, ha => rfl
  | .dead, ha => rfl
theorem cloL_mono {D D' : Lbl → Bool} (h : ∀ l, D l = true → D' l = true) : ∀ (l : List AV), cloL D l = true → cloL D' l = true
  | [], _ => rfl
  | a :: l, ha => by simp only [cloL, Bool.and_eq_true] at ha ⊢; exact ⟨cloB_mono h a ha.1, cloL_mono h l ha.2⟩
end
theorem cloB_free {D : Lbl → Bool} {a : AV} (h : cloB (fun _ => false) a = true) : cloB D a = true := cloB_mono (fun _ h => by cases h) a h
theorem clo_args {D : Lbl → Bool} {sz : Nat} {xs : List (List AV)} {fv : AV} (h : cloB (fun _ => false) fv = true) : cloL D [.lst sz xs, fv] = true := by
  simp only [cloL, cloB, Bool.true_and, Bool.and_true]
  exact cloB_free h
theorem clo_fv {sz : Nat} {xs : List (List AV)} {fv : AV} {k1 k2 k3 k4 : Nat} {n m : Int} {i j : IntKind} (h : cloB (fun _ => false) fv = true) : cloChk [] [(k1, .lst sz xs), (k2, fv), (k3, .int i n), (k4, .int j m)] [] = true := by
  unfold cloChk
  have := cloB_free (D := keyB []) h
  simp [cloB, this]
theorem clo_all {sz : Nat} {xs : List (List AV)} {fv : AV} {k1 k2 k3 k4 k5 k6 : Nat} {n m : Int} {i j : IntKind} {l : Lbl} {c e s2 : Nat} {ys : List (List AV)} (h : cloB (fun _ => false) fv = true) (hy : Clo ys) :
    cloChk [] [(k1, .lst sz xs), (k2, fv), (k3, .lst sz xs), (k4, .int i n), (k5, .int j m), (k6, .own l c)] [(l, .row e s2 ys)] = true := by
  unfold cloChk
  have h1 := cloB_free (D := keyB [(l, .row e s2 ys)]) h
  have h2 : cloL (keyB [(l, .row e s2 ys)]) ys.flatten = true := cloL_mono (fun _ h => by cases h) _ hy
  have h3 : keyB [(l, .row e s2 ys)] l = true := by simp [keyB, getL, lbeq_iff.2 rfl]
  simp [cloB, cloX, h1, h2, h3]
theorem map_succ {α : Type} {f : α → List AV} {xs : List α} {i : Nat} (h : i < xs.length) : (xs.take i).map f ++ [f xs[i]] = (xs.take (i + 1)).map f := by
  rw [List.take_succ_eq_append_getElem h, List.map_append]
  rfl
theorem map_all {α : Type} {f : α → List AV} {xs : List α} {i : Nat} (h : xs.length ≤ i) : (xs.take i).map f = xs.map f := by
  rw [List.take_of_length_le h]
end Go.Ab
namespace Go.Ab
theorem ByteTo.at {s : Str} {i : Nat} {K : UInt8 → Prop} {c : UInt8} (h : s[i]? = some c) (hK : K c) : ByteTo s (i : Int) K := ⟨c, by omega, by simpa using h, hK⟩
end Go.Ab
namespace Go.Ab
theorem meets_mk {P : Program} {G : GlP} {F : FE} (hΘ : TTok P F.Θ) (hm : P.follows .mixedOrders = true) {f : FuncId} {fn : Func} {c : Code} {args : List AV} {R : BL} {r : AV} {gp : BL}
    (hf : P.funcs[f]? = some fn) (hb : fn.body = some c) (hcall : ∀ (a : Array Value) (w : World), (callFunc f a).run P w = .ok (.enter f a) w) (hN : F.N = args.length + (fn.ntmps - args.length))
    (hca : cloL (keyB R) args = true) (hcR : R.all (fun p => cloX (keyB R) p.2) = true) (hcr : cloB (keyB (gp ++ R)) r = true) (hcg : (gp ++ R).all (fun p => cloX (keyB (gp ++ R)) p.2) = true)
    (h : acode P G F R c (argT 0 args) R (EndK P G F R fn r gp)) (hro : F.ro = none := by rfl) : Meets P G f args R r gp :=
  meets_intro hΘ hm hf hb hcall hN hca (fun l o h => by rw [List.all_eq_true] at hcR; exact hcR _ (getL_mem h)) hcr (fun l o h => by rw [List.all_eq_true] at hcg; exact hcg _ (getL_mem h)) h hro
theorem Fin.give {P : Program} {G : GlP} {F : FE} (hΘ : TTok P F.Θ) {R : BL} {fn : Func} {r : AV} {gp : BL} {T : TL} {L : BL} (l : List AV) (hr : resA F.Θ T L fn.results.toList = some l) (hv : resV l = r)
    (hl : SubL (gp ++ R) L) (hc : cloB (keyB (gp ++ R)) r = true) (hx : (gp ++ R).all (fun p => cloX (keyB (gp ++ R)) p.2) = true) : Fin P G F R fn r gp T L :=
  Fin.done hΘ l hr hv hl.spec hc (fun l o h => by rw [List.all_eq_true] at hx; exact hx _ (getL_mem h))
theorem cloX_row {l : Lbl} {e sz : Nat} {xs : List (List AV)} {D : Lbl → Bool} (h : Clo xs) : cloX D (.row e sz xs) = true := cloL_mono (fun _ h => by cases h) _ h
theorem all_row {l : Lbl} {e sz : Nat} {xs : List (List AV)} (h : Clo xs) : ([(l, ABox.row e sz xs)] ++ ([] : BL)).all (fun p => cloX (keyB ([(l, ABox.row e sz xs)] ++ [])) p.2) = true := by
  simp [cloX_row (l := l) (e := e) (sz := sz) (D := keyB [(l, ABox.row e sz xs)]) h]
theorem key_one {l : Lbl} {o : ABox} {n : Nat} : cloB (keyB ([(l, o)] ++ [])) (.own l n) = true := by simp [cloB, keyB, getL, lbeq_iff.2 rfl]

def grow {α β : Type} (pre : List β) (f : α → List β) (xs : List α) (i : Nat) : List β := pre ++ (xs.take i).flatMap f
theorem grow_succ {α β : Type} {c : β → List AV} {pre : List β} {f : α → List β} {xs : List α} {i : Nat} (h : i < xs.length) : (grow pre f xs i).map c ++ (f xs[i]).map c = (grow pre f xs (i + 1)).map c := by
  unfold grow
  rw [List.take_succ_eq_append_getElem h, List.flatMap_append]
  simp
theorem grow_all {α β : Type} {pre : List β} {f : α → List β} {xs : List α} {i : Nat} (h : xs.length ≤ i) : grow pre f xs i = pre ++ xs.flatMap f := by
  unfold grow
  rw [List.take_of_length_le h]
theorem grow_zero {α β : Type} {pre : List β} {f : α → List β} {xs : List α} : grow pre f xs 0 = pre := by simp [grow]
theorem grow_len {α β : Type} {pre : List β} {f : α → List β} {xs : List α} {i : Nat} (h : i < xs.length) : (grow pre f xs (i + 1)).length = (grow pre f xs i).length + (f xs[i]).length := by
  unfold grow
  rw [List.take_succ_eq_append_getElem h, List.flatMap_append, List.length_append, List.length_append, List.length_append]
  simp only [List.flatMap_cons, List.flatMap_nil, List.append_nil]
  omega
theorem grow_le {α β : Type} {pre : List β} {f : α → List β} {xs : List α} {i : Nat} : (grow pre f xs i).length ≤ (pre ++ xs.flatMap f).length := by
  unfold grow
  have : ∀ (l : List α) (i : Nat), ((l.take i).flatMap f).length ≤ (l.flatMap f).length := by
    intro l
    induction l with
    | nil => intro i; simp
    | cons a l ih =>
      intro i
      cases i with
      | zero => simp
      | succ i =>
        have := ih i
        simp only [List.take_succ_cons, List.flatMap_cons, List.length_append]
        omega
  have := this xs i
  simp only [List.length_append]
  omega
theorem own_len {l : Lbl} {n m : Nat} (h : n = m) : AV.own l n = AV.own l m := by rw [h]
end Go.Ab

namespace Go.Ab
def AllT (D : Lbl → Bool) : TL → Prop
  | [] => True
  | (_, v) :: r => cloB D v = true ∧ AllT D r
def AllL (D : Lbl → Bool) : BL → Prop
  | [] => True
  | (_, o) :: r => cloX D o = true ∧ AllL D r
theorem AllT.spec {D : Lbl → Bool} : ∀ {T : TL}, AllT D T → T.all (fun p => cloB D p.2) = true
  | [], _ => rfl
  | (k, v) :: r, h => by simp only [List.all_cons, Bool.and_eq_true]; exact ⟨h.1, AllT.spec h.2⟩
theorem AllL.spec {D : Lbl → Bool} : ∀ {L : BL}, AllL D L → L.all (fun p => cloX D p.2) = true
  | [], _ => rfl
  | (k, v) :: r, h => by simp only [List.all_cons, Bool.and_eq_true]; exact ⟨h.1, AllL.spec h.2⟩
theorem chk_mk {R : BL} {T : TL} {L : BL} (h1 : AllT (keyB L) T) (h2 : AllL (keyB L) L) (h3 : R.all (fun p => keyB L p.1) = true) : cloChk R T L = true := by
  unfold cloChk
  rw [h1.spec, h2.spec, h3]
  rfl
theorem row_to {L : BL} {l : Lbl} {e sz : Nat} {α : Type} {c : α → List AV} {A B : List α} (h : A = B) (hl : getL L l = some (.row e sz (A.map c))) : getL L l = some (.row e sz (B.map c)) := by rw [hl, h]
theorem grow_go {α β : Type} {pre pre' : List β} {f : α → List β} {xs : List α} {γ : Type} {g : γ → List β} {ys : List γ} {i : Nat} (h : xs.length ≤ i) (hp : pre ++ xs.flatMap f = pre') : grow pre f xs i = grow pre' g ys 0 := by
  rw [grow_all h, grow_zero, hp]
end Go.Ab
namespace Go.Ab
theorem Fin.back {P : Program} {G : GlP} {F : FE} (hΘ : TTok P F.Θ) {R : BL} {fn : Func} {r : AV} {gp : BL} {T : TL} {L : BL} (l : List AV) (hr : resA F.Θ T L fn.results.toList = some l) (hv : resV l = r)
    (hk : R.all (fun p => keyB gp p.1) = true) (hl : SubL gp L) (hc : cloB (keyB (gp ++ R)) r = true) (hx : AllL (keyB (gp ++ R)) gp) : Fin P G F R fn r gp T L := by
  have key : ∀ l o, getL (gp ++ R) l = some o → getL gp l = some o := fun l o h => by
    rw [getL_append] at h
    unfold ovr at h
    cases hg : getL gp l with
    | some x => rw [hg] at h; exact h
    | none =>
      rw [hg] at h
      rw [List.all_eq_true] at hk
      have := hk _ (getL_mem h)
      simp [keyB, hg] at this
  exact Fin.done hΘ l hr hv (fun l o h => hl.spec l o (key l o h)) hc fun l o h => by
    have := hx.spec
    rw [List.all_eq_true] at this
    exact this _ (getL_mem (key l o h))
theorem meets_box {P : Program} {G : GlP} {F : FE} (hΘ : TTok P F.Θ) (hm : P.follows .mixedOrders = true) {f : FuncId} {fn : Func} {c : Code} {args : List AV} {R : BL} {r : AV} {gp : BL}
    (hf : P.funcs[f]? = some fn) (hb : fn.body = some c) (hcall : ∀ (a : Array Value) (w : World), (callFunc f a).run P w = .ok (.enter f a) w) (hN : F.N = args.length + (fn.ntmps - args.length))
    (hca : cloL (keyB R) args = true) (hcR : AllL (keyB R) R) (hcr : cloB (keyB (gp ++ R)) r = true) (hcg : AllL (keyB (gp ++ R)) gp) (hcg' : AllL (keyB (gp ++ R)) R)
    (h : acode P G F R c (argT 0 args) R (EndK P G F R fn r gp)) (hro : F.ro = none := by rfl) : Meets P G f args R r gp :=
  meets_mk hΘ hm hf hb hcall hN hca hcR.spec hcr (by rw [List.all_append, hcg.spec, hcg'.spec]; rfl) h hro
theorem box_to {L : BL} {k l : Lbl} {e : TypeId} {n m : Nat} (h : n = m) (hl : getL L k = some (.cells e [.own l n])) : getL L k = some (.cells e [.own l m]) := by rw [hl, h]
end Go.Ab
namespace Go.Ab
def NoneAll (fp : BL) : BL → Prop
  | [] => True
  | (k, _) :: r => getL fp k = none ∧ NoneAll fp r
theorem see_tail {fp : BL} : ∀ {pre : BL}, NoneAll fp pre → ∀ l b, getL fp l = some b → getL (pre ++ fp) l = some b
  | [], _, l, b, h => h
  | (k, o) :: r, hp, l, b, h => by
    simp only [List.cons_append, getL]
    cases hb : lbeq k l with
    | false => exact see_tail hp.2 l b h
    | true => rw [lbeq_iff.1 hb] at hp; rw [hp.1] at h; cases h
def ndB : BL → Bool
  | [] => true
  | (k, _) :: r => !(keyB r k) && ndB r
theorem nd_spec : ∀ {fp : BL}, ndB fp = true → ∀ l o, (l, o) ∈ fp → getL fp l = some o
  | [], _, l, o, h => by cases h
  | (k, x) :: r, hn, l, o, h => by
    simp only [ndB, Bool.and_eq_true, Bool.not_eq_true'] at hn
    simp only [getL]
    rcases List.mem_cons.1 h with e | h
    · injection e with e1 e2
      subst e1 e2
      simp [lbeq_iff.2 rfl]
    · have hg := nd_spec hn.2 l o h
      cases hb : lbeq k l with
      | false => exact hg
      | true =>
        have := hn.1
        rw [lbeq_iff.1 hb] at this
        simp [keyB, hg] at this
theorem sub_of {L : BL} : ∀ {fp : BL}, (∀ l o, (l, o) ∈ fp → getL L l = some o) → SubL fp L
  | [], _ => trivial
  | (k, o) :: r, h => ⟨h k o List.mem_cons_self, sub_of fun l o hm => h l o (List.mem_cons_of_mem _ hm)⟩
theorem sub_tail {fp pre : BL} (h : NoneAll fp pre) (hn : ndB fp = true) : SubL fp (pre ++ fp) := sub_of fun l o hm => see_tail h l o (nd_spec hn l o hm)
theorem AllL.mono {D D' : Lbl → Bool} (h : ∀ l, D l = true → D' l = true) : ∀ {L : BL}, AllL D L → AllL D' L
  | [], _ => trivial
  | (k, o) :: r, ha => by
    refine ⟨?_, AllL.mono h ha.2⟩
    have := ha.1
    cases o with
    | cells e cs => exact cloL_mono h _ this
    | row e sz xs => exact cloL_mono h _ this
    | dmap es => simp only [cloX, Bool.and_eq_true] at this ⊢; exact ⟨cloL_mono h _ this.1, cloL_mono h _ this.2⟩
    | lrec st jump ld T => simp only [cloX, List.all_eq_true] at this ⊢; exact fun p hp => cloB_mono h _ (this p hp)
theorem key_cons {p : Lbl × ABox} {fp : BL} : ∀ l, keyB fp l = true → keyB (p :: fp) l = true := fun l h => by
  obtain ⟨k, o⟩ := p
  unfold keyB at *
  simp only [getL]
  cases lbeq k l
  · exact h
  · rfl
theorem keys_cons {p : Lbl × ABox} {fp : BL} : fp.all (fun q => keyB (p :: fp) q.1) = true := by
  rw [List.all_eq_true]
  intro q hq
  obtain ⟨k, o⟩ := q
  have : keyB fp k = true := by
    clear p
    induction fp with
    | nil => cases hq
    | cons a r ih =>
      obtain ⟨j, x⟩ := a
      unfold keyB
      simp only [getL]
      cases hb : lbeq j k with
      | true => rfl
      | false =>
        rcases List.mem_cons.1 hq with e | hq
        · injection e with e1 _
          rw [e1] at hb
          simp [lbeq_iff.2 rfl] at hb
        · exact ih hq
  exact key_cons k this
end Go.Ab
namespace Go.Ab
theorem subX_of {Z : ZL} {L : BL} : ∀ {fp : BL}, SubL fp L → SubX Z fp L
  | [], _ => trivial
  | (k, o) :: r, h => ⟨⟨o, h.1, .refl o⟩, subX_of h.2⟩
theorem keys_self {fp : BL} : fp.all (fun q => keyB fp q.1) = true := by
  rw [List.all_eq_true]
  intro q hq
  obtain ⟨k, o⟩ := q
  induction fp with
  | nil => cases hq
  | cons a r ih =>
    obtain ⟨j, x⟩ := a
    show keyB ((j, x) :: r) k = true
    unfold keyB
    simp only [getL]
    cases hb : lbeq j k with
    | true => rfl
    | false =>
      rcases List.mem_cons.1 hq with e | hq
      · injection e with e1 _
        rw [e1] at hb
        simp [lbeq_iff.2 rfl] at hb
      · exact ih hq
end Go.Ab
namespace Go.Ab
theorem Fin.sees {P : Program} {G : GlP} {F : FE} (hΘ : TTok P F.Θ) {R : BL} {fn : Func} {r : AV} {T : TL} {L : BL} (l : List AV) (hr : resA F.Θ T L fn.results.toList = some l) (hv : resV l = r)
    (hl : SubL R L) (hc : cloB (keyB R) r = true) (hx : AllL (keyB R) R) : Fin P G F R fn r [] T L :=
  Fin.done hΘ l hr hv (fun l o h => hl.spec l o h) hc fun l o h => by
    have := hx.spec
    rw [List.all_eq_true] at this
    exact this _ (getL_mem h)
theorem meets_sees {P : Program} {G : GlP} {F : FE} (hΘ : TTok P F.Θ) (hm : P.follows .mixedOrders = true) {f : FuncId} {fn : Func} {c : Code} {args : List AV} {R : BL} {r : AV}
    (hf : P.funcs[f]? = some fn) (hb : fn.body = some c) (hcall : ∀ (a : Array Value) (w : World), (callFunc f a).run P w = .ok (.enter f a) w) (hN : F.N = args.length + (fn.ntmps - args.length))
    (hca : cloL (keyB R) args = true) (hcR : AllL (keyB R) R) (hcr : cloB (keyB R) r = true)
    (h : acode P G F R c (argT 0 args) R (EndK P G F R fn r [])) (hro : F.ro = none := by rfl) : Meets P G f args R r [] :=
  meets_box hΘ hm hf hb hcall hN hca hcR hcr trivial hcR h hro
end Go.Ab
namespace Go.Ab
theorem CvL.set {w : World} {O : Nat → Prop} : ∀ {cs : List AV} {μ : Mu} {vs : List Value} {j : Nat} {a : AV} {x : Value}, CvL w O cs μ vs → vs[j]? = some x → Cv w O a μ x → CvL w O (cs.set j a) μ vs
  | [], μ, vs, j, a, x, h, hj, ha => by simp only [CvL] at h; subst h; simp at hj
  | c :: cs, μ, vs, j, a, x, h, hj, ha => by
    simp only [CvL] at h
    obtain ⟨y, ys, rfl, h2, h3⟩ := h
    cases j with
    | zero =>
      simp at hj
      subst hj
      simp only [List.set_cons_zero, CvL]
      exact ⟨_, _, rfl, ha, h3⟩
    | succ j =>
      simp only [List.set_cons_succ, CvL]
      exact ⟨_, _, rfl, h2, CvL.set h3 (by simpa using hj) ha⟩
/-- A slice without room in a box becomes a row of the call's own, without elements. -/
theorem Conv.empOwnBox {G : GlP} {F : FE} {R : BL} {T : TL} {L : BL} (k : Lbl) (j : Nat) {e0 : TypeId} {cs : List AV} (hk : getL L k = some (.cells e0 cs)) (hj : cs[j]? = some .emp) (l : Lbl) (hl : getL L l = none) (e : TypeId) (sz : Nat) :
    Conv G F R T L T ((k, .cells e0 (cs.set j (.own l 0))) :: (l, .row e sz []) :: L) := by
  intro E w μ a hE h
  obtain ⟨v, ob, h1, b, vs, rfl, rfl, h2, h3, h4⟩ := h.core.box k _ hk
  obtain ⟨x, hx, hc⟩ := h3.get j _ hj
  simp only [Cv] at hc
  obtain ⟨A, hA⟩ := hc
  have n1 := h.core.newBox (w' := w) l hl (.slice A 0 0) none (.row e sz []) (Nat.le_refl _) rfl rfl rfl (fun b _ => rfl) (fun b hb => by cases hb)
    (fun O' μ' hla hk => ⟨A, 0, [], rfl, Nat.le_refl _, Nat.zero_le _, (fun x hx => by cases hx), ⟨by simp [CvL], (fun c hc => by simp at hc)⟩, .inl ⟨rfl, rfl⟩⟩)
  have hkl : l ≠ k := fun e => by rw [e, hk] at hl; cases hl
  have hμk : updM μ l (.slice A 0 0, none) k = some (.pointer (some ⟨b, 0, none⟩), some b) := by rw [updM_other μ _ hkl]; exact h1
  have hcell : CvL w (E.O (updM μ l (.slice A 0 0, none))) (cs.set j (.own l 0)) (updM μ l (.slice A 0 0, none)) vs.toList := by
    refine CvL.set (h3.mono n1.2.1 _ n1.2.2) hx ?_
    simp only [Cv]
    exact ⟨A, 0, 0, none, updM_same _ _ _, Nat.le_refl _, fun _ => hA, A, 0, hA⟩
  have hone : allOne (cs.set j (.own l 0)) := fun c hc => by
    rcases List.mem_or_eq_of_mem_set hc with h | h
    · exact h4 c h
    · subst h; rfl
  have n2 := n1.1.setBox (w' := w) k _ _ hμk (.pointer (some ⟨b, 0, none⟩)) (some b) (kp.refl _) (.cells e0 (cs.set j (.own l 0))) (Nat.le_refl _) rfl rfl rfl (fun _ _ _ => rfl) (fun _ hb => .inl hb)
    (fun O' μ' hla hkk => ⟨b, vs, rfl, rfl, h2, hcell.mono hla _ hkk, hone⟩)
  refine ⟨updM (updM μ l (.slice A 0 0, none)) k (.pointer (some ⟨b, 0, none⟩), some b), ⟨?_, fun t => ?_, h.size, (h.defers.mono n1.2.1).mono n2.2.1⟩⟩
  rotate_left
  · exact ((h.tmps t).mono n1.2.1 _ n1.2.2).mono n2.2.1 _ n2.2.2
  · have e1 : getL ((k, ABox.cells e0 (cs.set j (.own l 0))) :: (l, .row e sz []) :: L) = ovr (ovr (getL L) [(l, .row e sz [])]) [(k, .cells e0 (cs.set j (.own l 0)))] := by
      rw [← getL_ovr [(l, .row e sz [])] L, ← getL_ovr]
      rfl
    simp only
    rw [e1]
    exact n2.1
end Go.Ab

namespace Go.Ab
theorem map_succ2 {α β : Type} {g : α → β} {f : β → List AV} {xs : List α} {i : Nat} (h : i < xs.length) : ((xs.take i).map g).map f ++ [f (g xs[i])] = ((xs.take (i + 1)).map g).map f := by
  rw [List.take_succ_eq_append_getElem h, List.map_append, List.map_append]
  rfl
end Go.Ab
namespace Go.Ab
/-- Ways that part and meet again: what holds behind them, told once. -/
theorem CodeTo.join {P : Program} {G : GlP} {F : FE} {R : BL} {c : Code} {T : TL} {L : BL} {K : AE → TL → BL → Prop} (K0 : AE → TL → BL → Prop) (h : CodeTo P G F R c T L K0)
    (hk : ∀ z T1 L1, K0 z T1 L1 → ∃ T2 L2, Conv G F R T1 L1 T2 L2 ∧ K z T2 L2) : CodeTo P G F R c T L K := by
  refine ⟨fun E w μ a hE R' => wpIn_mono (h.out E w μ a hE R') ?_⟩
  rintro e a' w' ⟨z, T1, L1, μ1, rfl, R1, h1⟩
  obtain ⟨T2, L2, hc, h2⟩ := hk z T1 L1 h1
  obtain ⟨μ2, R2⟩ := hc E w' μ1 a' hE R1
  exact ⟨z, T2, L2, μ2, rfl, R2, h2⟩
end Go.Ab
namespace Go.Ab
theorem LoopOK.join {P : Program} {G : GlP} {F : FE} {R : BL} {c : Code} {T : TL} {L : BL} {K : AE → TL → BL → Prop} (K0 : AE → TL → BL → Prop) (h : LoopOK P G F R c T L K0)
    (hk : ∀ z T1 L1, K0 z T1 L1 → ∃ T2 L2, Conv G F R T1 L1 T2 L2 ∧ K z T2 L2) : LoopOK P G F R c T L K := by
  refine ⟨fun E w μ a hE R' b k cs hro => ?_⟩
  obtain ⟨e, a', w', ⟨z, T1, L1, μ1, he, R1, h1⟩, harr⟩ := h.out E w μ a hE R' b k cs hro
  obtain ⟨T2, L2, hc, h2⟩ := hk z T1 L1 h1
  obtain ⟨μ2, R2⟩ := hc E w' μ1 a' hE R1
  exact ⟨e, a', w', ⟨z, T2, L2, μ2, he, R2, h2⟩, harr⟩
end Go.Ab
namespace Go.Ab
theorem map_range_succ {β : Type} {g : Nat → β} {f : β → List AV} {i : Nat} : ((List.range i).map g).map f ++ [f (g i)] = ((List.range (i + 1)).map g).map f := by
  rw [List.range_succ, List.map_append, List.map_append]
  rfl
theorem map_atD {α : Type} (f : α → List AV) {xs : List α} {i : Nat} (d : α) (h : i < xs.length) : (xs.map f)[i]? = some (f (xs.getD i d)) := by
  simp [h]
theorem IndexTo.atD {α : Type} (f : α → List AV) {xs : List α} {i : Int} {K : List AV → Prop} (d : α) (h0 : 0 ≤ i) (h : i < (xs.length : Int)) (hK : K (f (xs.getD i.toNat d))) : IndexTo (xs.map f) i K :=
  ⟨_, h0, map_atD f d (by omega), hK⟩
end Go.Ab
/- The framework of abstract states, part 16: loops over functions. -/
set_option linter.unusedVariables false
set_option linter.unusedSimpArgs false
namespace Go.Ab

theorem Marks.mem {E : Env} {w : World} {μ : Mu} : ∀ {ds : List Deferred}, Marks E w μ ds → ∀ d ∈ ds, ∃ r, d = { target := .collected r, args := #[] } ∧ r < w.heap.size
  | [], _, d, hd => by cases hd
  | e :: ds, ⟨⟨r, h1, h2, h3, h4, h5, h6⟩, h⟩, d, hd => by
    rcases List.mem_cons.1 hd with rfl | hd
    · exact ⟨r, h1, h3⟩
    · exact Marks.mem h d hd

/-- What goes on behind a loop over a function, by the jump that a round left. -/
def jumpK (K : AE → TL → BL → Prop) (jump : Option Code) (T : TL) (L : BL) : Prop := match jump with
  | none => K .normal T L
  | some .ret => K .ret T L
  | some (.exit i) => K (.exit i) T L
  | _ => False

theorem CodeTo.range {P : Program} {G : GlP} {F : FE} {R : BL} {g : Operand} {ps : Array Tmp} {x y : Code} {T : TL} {L : BL} {K : AE → TL → BL → Prop} (hro : F.ro = none) {f : FuncId} {first cap : List AV}
    (hg : ev T g = .fn (.func f) first cap) (lr : Lbl) (hl : getL L lr = none) (Tr : TL) (hTr : SubT Tr T) {fp' gp' : BL} {r : AV} {st : LoopState} {jump : Option Code}
    (hmt : Meets P G f (first ++ [.yv lr] ++ cap) ((lr, .lrec .ready none ⟨ps, x, y, F.N⟩ Tr) :: fp') r ((lr, .lrec st jump ⟨ps, x, y, F.N⟩ Tr) :: gp'))
    (hfp : SubL fp' L) (hgp : gp'.all (fun p => keyB fp' p.1) = true) (hst : st ≠ .busy) (T' : TL) (L' : BL) (ht : SubT T' T) (hL : SubL L' (gp' ++ L)) (hc : cloChk R T' L' = true)
    (hK : jumpK K jump T' L') : CodeTo P G F R (.rangeFunc g ps x y) T L K := by
  refine ⟨fun E w μ a hE R' => ?_⟩
  rw [hro, wr_none]
  refine wpIn_rangeFunc fun fn _ => ?_
  have C0 := R'.core
  have CA := C0.anon (.deferred (some []))
  have hAs : (w.alloc (.deferred (some []))).heap.size = w.heap.size + 1 := heap_alloc_size _ _
  let rec0 : Loop := { state := .ready, pending := none, fn := fn, tmps := a.tmps, params := ps, assign := x, body := y, defers := w.heap.size }
  have hBs : ((w.alloc (.deferred (some []))).alloc (.loop rec0)).heap.size = w.heap.size + 2 := by rw [heap_alloc_size, hAs]
  have CB := CA.1.newBox (w' := (w.alloc (.deferred (some []))).alloc (.loop rec0)) lr hl (.func (.yield (w.heap.size + 1)) #[] #[]) (some (w.heap.size + 1)) (.lrec .ready none ⟨ps, x, y, F.N⟩ Tr)
    (by rw [hAs, hBs]; omega) rfl rfl rfl (fun b hb => heap_alloc _ _ b hb) (fun b hb => by injection hb with hb; rw [hAs, hBs]; omega)
    (fun O' μ' hla hk => ⟨w.heap.size + 1, rec0, rfl, rfl, by rw [← hAs]; exact heap_alloc_self _ _, rfl, rfl, rfl, rfl, rfl, R'.size, fun t => by
      have h0 := R'.tmps t
      simp only at h0
      rcases hTr.spec t with e | e
      · rw [e]; simp [Cv]
      · rw [e]; exact (h0.mono CA.2 _ (Keeps.refl _)).mono hla _ hk⟩)
  have hgv := R'.ev g
  rw [← ev_eq, hg] at hgv
  simp only [Cv] at hgv
  obtain ⟨xs, ys, hev, h1, h2⟩ := hgv
  refine ⟨w.heap.size + 1, [{ target := .collected w.heap.size, args := #[] }], (w.alloc (.deferred (some []))).alloc (.loop rec0), { target := .fn (.func f) ys, args := xs ++ #[Value.func (.yield (w.heap.size + 1)) #[] #[]] }, (w.alloc (.deferred (some []))).alloc (.loop rec0), f,
    (xs.toList ++ [Value.func (.yield (w.heap.size + 1)) #[] #[]] ++ ys.toList).toArray, (w.alloc (.deferred (some []))).alloc (.loop rec0), run_enterLoop_outer fn a.tmps ps x y, ?_, (fun _ _ => trivial), ?_, (fun h => by cases h), ?_⟩
  · simp only [resolve, hev, Deferred.ofValue, List.map_toArray, List.map_cons, List.map_nil, Sem.run_pure]
    rfl
  · have ha : xs ++ #[Value.func (.yield (w.heap.size + 1)) #[] #[]] ++ ys = (xs.toList ++ [Value.func (.yield (w.heap.size + 1)) #[] #[]] ++ ys.toList).toArray := by
      apply Array.ext'
      rw [Array.toList_append, Array.toList_append]
    show Sem.run P (callFunc f (xs ++ #[Value.func (.yield (w.heap.size + 1)) #[] #[]] ++ ys)) _ = _
    rw [hmt.enters, ha]
  · have hlr : ∀ k o, getL gp' k = some o → lr ≠ k := fun k o h e => by
      subst e
      have := List.all_eq_true.1 hgp _ (getL_mem h)
      simp only [keyB] at this
      cases hx : getL fp' lr with
      | none => rw [hx] at this; cases this
      | some o' => rw [hfp.spec lr o' hx] at hl; cases hl
    have hcalls := hmt.calls E _ _ (ovr (getL L) [(lr, .lrec .ready none ⟨ps, x, y, F.N⟩ Tr)]) _ CB.1 (fun k o h => by
        simp only [getL] at h
        cases hb : lbeq lr k with
        | true =>
          rw [hb] at h
          rw [← lbeq_iff.1 hb, ovr_one_same]
          exact h
        | false =>
          rw [hb] at h
          rw [ovr_one_other _ _ (lbeq_false.1 hb)]
          exact hfp.spec k o h)
      (fun k o h => by
        simp only [getL] at h ⊢
        cases hb : lbeq lr k with
        | true => exact .inl rfl
        | false =>
          rw [hb] at h
          exact .inl (List.all_eq_true.1 hgp _ (getL_mem h)))
      (CvL.append (CvL.append ((h1.mono CA.2 _ (Keeps.refl _)).mono CB.2.1 _ CB.2.2) (by simp only [CvL]; exact ⟨_, _, rfl, by simp only [Cv]; exact ⟨_, _, rfl, updM_same _ _ _⟩, rfl⟩)) ((h2.mono CA.2 _ (Keeps.refl _)).mono CB.2.1 _ CB.2.2))
    refine (callsIn_wide (n := 0 - 1)).2 (hcalls.mono ?_)
    rintro e w3 ⟨v, rfl, μ3, C3, hla3, hk3, _⟩
    have hb3 : ovr (ovr (getL L) [(lr, .lrec .ready none ⟨ps, x, y, F.N⟩ Tr)]) ((lr, .lrec st jump ⟨ps, x, y, F.N⟩ Tr) :: gp') lr = some (.lrec st jump ⟨ps, x, y, F.N⟩ Tr) := by
      simp [ovr, getL, lbeq_iff.2 rfl]
    obtain ⟨v', ob', e1, b, rr, rfl, rfl, hheap, hst', hpend, hpar, hasg, hbod, hsz, htm⟩ := C3.box lr _ hb3
    obtain ⟨v2, ob2, e2, hkp⟩ := hk3 lr _ _ (updM_same _ _ _)
    rw [e1] at e2
    injection e2 with e2
    injection e2 with e2 e3
    have hv2 : v2 = .func (.yield (w.heap.size + 1)) #[] #[] := by
      rcases hkp with h | ⟨A, m, c, A', m', c', h, _⟩
      · exact h
      · cases h
    rw [hv2] at e2
    injection e2 with e2
    injection e2 with e2
    subst e2
    have hbusy : rr.state ≠ .busy := by rw [hst']; exact hst
    have C4 := C3.setBox (w' := w3.putObj (w.heap.size + 1) (.loop { rr with state := .exhausted })) lr _ _ e1 (.func (.yield (w.heap.size + 1)) #[] #[]) (some (w.heap.size + 1)) (kp.refl _) (.lrec .exhausted jump ⟨ps, x, y, F.N⟩ Tr)
      (by simp) rfl rfl rfl (fun k _ hne => World.putObj_heap_other fun e => hne (by rw [e])) (fun k hk => .inl hk)
      (fun O' μ' hla hk => ⟨_, { rr with state := .exhausted }, rfl, rfl, World.putObj_heap_same (Array.getElem?_eq_some_iff.1 hheap).1, rfl, hpend, hpar, hasg, hbod, hsz, fun t => (htm t).mono hla _ hk⟩)
    have hc' := hc
    unfold cloChk at hc'
    simp only [Bool.and_eq_true, List.all_eq_true] at hc'
    obtain ⟨μ5, g1, g2, g3⟩ := C4.1.drop L' (fun k o h => by
        have h := hL.spec k o h
        have hne : lr ≠ k := fun e => by
          subst e
          rw [getL_ovr] at h
          unfold ovr at h
          cases hx : getL gp' lr with
          | some o' => exact hlr lr o' hx rfl
          | none => rw [hx] at h; rw [hl] at h; cases h
        rw [ovr_one_other _ _ hne]
        rw [getL_ovr] at h
        unfold ovr at h ⊢
        simp only [getL, lbeq_false.2 hne, cond_false]
        exact h)
      (fun l hl => by
        have hr := hE.dom l hl
        cases hg : getL R l with
        | none => rw [hg] at hr; cases hr
        | some o => exact hc'.2 _ (getL_mem hg))
      (fun l o h => hc'.1.2 _ (getL_mem h))
    have M0 : Marks E (w.alloc (.deferred (some []))) μ ({ target := .collected w.heap.size, args := #[] } :: a.defers) := by
      refine ⟨⟨w.heap.size, rfl, C0.size, by rw [hAs]; omega, ?_, heap_alloc_self _ _, fun d' hd e => ?_⟩, R'.defers.mono CA.2⟩
      · rintro (h | h)
        · have := C0.ownlt _ h; omega
        · have := C0.Xlt _ h; have := C0.size; omega
      · obtain ⟨r', e', hr'⟩ := R'.defers.mem d' hd
        rw [e] at e'
        injection e' with e' _
        injection e' with e'
        omega
    have M5 := (((M0.mono CB.2.1).mono hla3).mono C4.2.1).mono g3
    have R5 : Rep G E F.N (w3.putObj (w.heap.size + 1) (.loop { rr with state := .exhausted })) μ5 (getT T', getL L') { a with defers := [{ target := .collected w.heap.size, args := #[] }] ++ a.defers } := by
      refine ⟨g2, fun k => ?_, R'.size, M5⟩
      have hk := R'.tmps k
      simp only at hk ⊢
      rcases ht.spec k with e | e
      · rw [e]; simp [Cv]
      · rw [← e] at hk
        have hcl : cloB (keyB L') (getT T' k) = true := getT_all hc'.1.1 k
        exact (((((hk.mono CA.2 _ (Keeps.refl _)).mono CB.2.1 _ CB.2.2).mono hla3 _ hk3).mono C4.2.1 _ C4.2.2).mono g3 _ (Keeps.refl _)).relabel (D := keyB L') g1 _ hcl
    refine ⟨rr.pending, _, run_endLoop hheap hbusy, ?_⟩
    revert R5
    generalize w3.putObj (w.heap.size + 1) (.loop { rr with state := .exhausted }) = w4
    intro R5
    rw [hpend]
    unfold jumpK at hK
    split at hK
    · exact ⟨.normal, T', L', μ5, rfl, R5, hK⟩
    · exact wpIn_ret ⟨.ret, T', L', μ5, rfl, R5, hK⟩
    · exact wpIn_exit ⟨.exit _, T', L', μ5, rfl, R5, hK⟩
    · exact hK.elim

/-! A round. -/
def putArgs : List Tmp → List AV → TL → TL
  | p :: ps, a :: as1, T => putArgs ps as1 ((p, a) :: T)
  | _, _, T => T
theorem putArgs_cv {w : World} {O : Nat → Prop} {μ : Mu} {N : Nat} : ∀ (ps : List Tmp) (as1 : List AV) (vs : List Value) (T : TL) (tm : Array Value), CvL w O as1 μ vs → (∀ p ∈ ps, p < N) → tm.size = N → (∀ t, Cv w O (getT T t) μ (tm.getD t undef)) →
    ((ps.zip vs).foldl (fun tm (p : Tmp × Value) => tm.setIfInBounds p.1 p.2) tm).size = N ∧ ∀ t, Cv w O (getT (putArgs ps as1 T) t) μ (((ps.zip vs).foldl (fun tm (p : Tmp × Value) => tm.setIfInBounds p.1 p.2) tm).getD t undef)
  | [], as1, vs, T, tm, hv, hp, hs, h => ⟨by simpa using hs, by simpa [putArgs] using h⟩
  | p :: ps, [], vs, T, tm, hv, hp, hs, h => by
    simp only [CvL] at hv
    subst hv
    exact ⟨by simpa using hs, by simpa [putArgs] using h⟩
  | p :: ps, a :: as1, vs, T, tm, hv, hp, hs, h => by
    simp only [CvL] at hv
    obtain ⟨x, xs, rfl, h1, h2⟩ := hv
    simp only [List.zip_cons_cons, List.foldl_cons, putArgs]
    refine putArgs_cv ps as1 xs ((p, a) :: T) _ h2 (fun q hq => hp q (List.mem_cons_of_mem _ hq)) (by simpa using hs) fun t => ?_
    simp only [getT]
    have hlt : p < tm.size := by rw [hs]; exact hp p List.mem_cons_self
    cases hb : Nat.beq p t with
    | true =>
      obtain rfl := Nat.eq_of_beq_eq_true hb
      simpa [hlt] using h1
    | false =>
      have hne : p ≠ t := fun e => by subst e; simp at hb
      have := h t
      simpa [Array.getElem?_setIfInBounds_ne hne] using this

def RndK (lr : Lbl) (ld : LD) (Tr : TL) (jump : Option Code) (gp' : BL) : AE → TL → BL → Prop
  | .normal, T, L => jump = none ∧ getL L lr = some (.lrec .busy none ld Tr) ∧ SubL gp' L
  | .ret, T, L => jump = some .ret ∧ getL L lr = some (.lrec .busy none ld Tr) ∧ SubL gp' L
  | .exit i, T, L => jump = some (.exit i) ∧ getL L lr = some (.lrec .busy none ld Tr) ∧ SubL gp' L
def AsgK (P : Program) (G : GlP) (F : FE) (R0 : BL) (lr : Lbl) (ld : LD) (Tr : TL) (jump : Option Code) (gp' : BL) : AE → TL → BL → Prop
  | .normal, T, L => getL L lr = some (.lrec .ready none ld Tr) ∧ acode P G F R0 ld.body T ((lr, .lrec .busy none ld Tr) :: L) (RndK lr ld Tr jump gp')
  | _, _, _ => False
def stOf : Option Code → LoopState
  | none => .ready
  | some _ => .done

theorem MeetsV.yield {P : Program} {G : GlP} {F : FE} (hΘ : TTok P F.Θ) (hm : P.follows .mixedOrders = true) {lr : Lbl} {ld : LD} {Tr : TL} {args : List AV} {R' gp' : BL} {jump : Option Code} {r : Bool} (hN : F.N = ld.N)
    (hps : ld.ps.toList.all (fun p => Nat.blt p ld.N) = true) (hlen : args.length = ld.ps.size) (hr : r = jump.isNone)
    (hcR : AllL (keyB ((lr, .lrec .ready none ld Tr) :: R')) ((lr, .lrec .ready none ld Tr) :: R')) (hca : cloL (keyB ((lr, .lrec .ready none ld Tr) :: R')) args = true)
    (hcg : AllL (keyB ((lr, .lrec (stOf jump) jump ld Tr) :: gp')) ((lr, .lrec (stOf jump) jump ld Tr) :: gp')) (hk : R'.all (fun p => keyB gp' p.1) = true) (hnk : getL gp' lr = none)
    (h : ∀ b, acode P G { F with ro := some b } ((lr, .lrec .ready none ld Tr) :: R') ld.assign (putArgs ld.ps.toList args Tr) ((lr, .lrec .ready none ld Tr) :: R')
      (AsgK P G { F with ro := some b } ((lr, .lrec .ready none ld Tr) :: R') lr ld Tr jump gp')) :
    MeetsV P G (.yv lr) args ((lr, .lrec .ready none ld Tr) :: R') (.bool r) ((lr, .lrec (stOf jump) jump ld Tr) :: gp') := by
  refine ⟨fun E w μ Lf x vs C hf hg hx hv => ?_⟩
  simp only [Cv] at hx
  obtain ⟨b, ob, rfl, hμ⟩ := hx
  obtain ⟨v', ob', h1, b', rr, rfl, rfl, hheap, hst, hpend, hpar, hasg, hbod, hsz, htm⟩ := C.box lr (.lrec .ready none ld Tr) (hf lr _ (by simp only [getL, lbeq_iff.2 rfl, cond_true]))
  rw [hμ] at h1
  injection h1 with h1
  injection h1 with h1 hob
  injection h1 with h1
  injection h1 with h1
  subst h1
  have hvl := hv.length
  have hrun : (Deferred.ofValue (.func (.yield b) #[] #[]) vs.toArray >>= fun d => invoke d.target d.args).run P w =
      .ok (.round b rr.fn ((rr.params.zip vs.toArray).foldl (fun tmps (t, a) => tmps.setIfInBounds t a) rr.tmps) rr.assign rr.body) w := by
    have hs : vs.toArray.size = rr.params.size := by rw [hpar]; simp; omega
    rw [← run_yield hheap hs]
    show Sem.run P (Bind.bind (Deferred.ofValue (.func (.yield b) #[] #[]) vs.toArray) fun d => invoke d.target d.args) w = _
    rw [Sem.run_bind]
    show (Sem.run P (Pure.pure _) w).andThen _ = _
    rw [Sem.run_pure]
    show Sem.run P (invoke (.fn (.yield b) #[]) (#[] ++ vs.toArray)) w = _
    rw [Array.empty_append]
    rfl
  unfold GivesV
  rw [hrun]
  simp only
  -- keys
  have hkR : ∀ k, keyB ((lr, ABox.lrec .ready none ld Tr) :: R') k = true → keyB ((lr, ABox.lrec (stOf jump) jump ld Tr) :: gp') k = true := fun k h => by
    simp only [keyB, getL] at h ⊢
    cases hb : lbeq lr k with
    | true => rfl
    | false =>
      rw [hb] at h
      simp only [cond_false] at h ⊢
      cases hx : getL R' k with
      | none => rw [hx] at h; cases h
      | some o => exact List.all_eq_true.1 hk _ (getL_mem hx)
  have hboth : ∀ k, getL (((lr, ABox.lrec (stOf jump) jump ld Tr) :: gp') ++ ((lr, ABox.lrec .ready none ld Tr) :: R')) k = getL ((lr, ABox.lrec (stOf jump) jump ld Tr) :: gp') k := fun k => by
    rw [getL_append]
    unfold ovr
    cases hx : getL ((lr, ABox.lrec (stOf jump) jump ld Tr) :: gp') k with
    | some o => rfl
    | none =>
      simp only
      cases hy : getL ((lr, ABox.lrec .ready none ld Tr) :: R') k with
      | none => rfl
      | some o =>
        have := hkR k (by simp [keyB, hy])
        simp [keyB, hx] at this
  have hkey : keyB (((lr, ABox.lrec (stOf jump) jump ld Tr) :: gp') ++ ((lr, ABox.lrec .ready none ld Tr) :: R')) = keyB ((lr, ABox.lrec (stOf jump) jump ld Tr) :: gp') := funext fun k => by simp only [keyB, hboth]
  obtain ⟨E1, μ1, ⟨hw0, hμ0⟩, C1, hE1, hcv, hin, hback⟩ := inside (r := .bool r) (gp := (lr, .lrec (stOf jump) jump ld Tr) :: gp') C hf hg
    (fun l o h => List.all_eq_true.1 hcR.spec _ (getL_mem h)) rfl (fun l o h => by rw [hkey]; rw [hboth] at h; exact List.all_eq_true.1 hcg.spec _ (getL_mem h))
  have hlrk : keyB ((lr, ABox.lrec .ready none ld Tr) :: R') lr = true := by simp [keyB, getL, lbeq_iff.2 rfl]
  have hμ1 : μ1 lr = some (.func (.yield b) #[] #[], some b) := by rw [hin lr hlrk, hμ, hob]
  have htm1 : ∀ t, Cv w (E1.O μ1) (getT Tr t) μ1 (rr.tmps.getD t undef) := fun t => hcv _ _ (getT_all (by
    have := hcR.1
    simp only [cloX, List.all_eq_true] at this
    exact this) t) (htm t)
  have hargs : CvL w (E1.O μ1) args μ1 vs := CvL.of_get hv.length fun i a x ha hx => by
    obtain ⟨y, hy, hc⟩ := hv.get i a ha
    rw [hx] at hy
    injection hy with hy
    subst hy
    exact hcv a x (cloL_mem hca a (List.mem_of_getElem? ha)) hc
  have hfold := putArgs_cv ld.ps.toList args vs Tr rr.tmps hargs (fun p hp => by
    have := List.all_eq_true.1 hps p hp
    simpa [Nat.blt_eq] using this) hsz htm1
  have hfe : (rr.params.zip vs.toArray).foldl (fun tmps (t, a) => tmps.setIfInBounds t a) rr.tmps = (ld.ps.toList.zip vs).foldl (fun tm (p : Tmp × Value) => tm.setIfInBounds p.1 p.2) rr.tmps := by
    rw [hpar, ← Array.foldl_toList, Array.toList_zip]
  rw [hfe, hasg, hbod]
  have R1 : Rep G E1 F.N w μ1 (getT (putArgs ld.ps.toList args Tr), getL ((lr, .lrec .ready none ld Tr) :: R')) { tmps := (ld.ps.toList.zip vs).foldl (fun tm (p : Tmp × Value) => tm.setIfInBounds p.1 p.2) rr.tmps, defers := [] } :=
    ⟨C1, hfold.2, by rw [hN]; exact hfold.1, trivial⟩
  have same : ∀ {w' : World} {μ' : Mu} {L' : Lbl → Option ABox} {st : LoopState} {j : Option Code}, Core G E1 w' μ' L' → L' lr = some (.lrec st j ld Tr) → ∃ r' : Loop, μ' lr = some (.func (.yield b) #[] #[], some b) ∧ w'.heap[b]? = some (.loop r') ∧
      r'.state = st ∧ r'.pending = j ∧ r'.params = ld.ps ∧ r'.assign = ld.assign ∧ r'.body = ld.body ∧ r'.tmps.size = ld.N ∧ ∀ t, Cv w' (E1.O μ') (getT Tr t) μ' (r'.tmps.getD t undef) := by
    intro w' μ' L' st j C' hL'
    obtain ⟨v', ob', h1, b', r', rfl, rfl, k1, k2, k3, k4, k5, k6, k7, k8⟩ := C'.box lr _ hL'
    obtain ⟨v2, ob2, e2, hkp⟩ := C'.keep lr _ _ (by rw [hμ0]; exact hμ1)
    rw [h1] at e2
    injection e2 with e2
    injection e2 with e2 _
    have hv2 : v2 = .func (.yield b) #[] #[] := by
      rcases hkp with h | ⟨A, m, c, A', m', c', h, _⟩
      · exact h
      · cases h
    rw [hv2] at e2
    injection e2 with e2
    injection e2 with e2
    subst e2
    exact ⟨r', h1, k1, k2, k3, k4, k5, k6, k7, k8⟩
  have fin : ∀ {w3 : World} {μ3 : Mu} {L2 : BL} {T2 : TL} {a2 : Act} (c : Option Code), jump = c → getL L2 lr = some (.lrec .busy none ld Tr) → SubL gp' L2 → Rep G E1 F.N w3 μ3 (getT T2, getL L2) a2 →
      ∃ v w', (Instr.endRound b c).run P w3 = .ok v w' ∧ (match Ending.returned v, w' with | .returned v, w'' => After G E w μ Lf (.bool r) ((lr, .lrec (stOf jump) jump ld Tr) :: gp') v w'' | _, _ => False) := by
    intro w3 μ3 L2 T2 a2 c hj hL2 hsub R4
    subst hj
    obtain ⟨r3, m1, k1, k2, k3, k4, k5, k6, k7, k8⟩ := same R4.core hL2
    refine ⟨_, _, run_endRound jump k1, ?_⟩
    have hst3 : (if jump.isNone then LoopState.ready else LoopState.done) = stOf jump := by cases jump <;> rfl
    have C5 := R4.core.setBox (w' := w3.putObj b (.loop { r3 with state := if jump.isNone then .ready else .done, pending := jump })) lr _ _ m1 (.func (.yield b) #[] #[]) (some b) (kp.refl _) (.lrec (stOf jump) jump ld Tr)
      (by simp) rfl rfl rfl (fun k _ hne => World.putObj_heap_other fun e => hne (by rw [e])) (fun k hk => .inl hk)
      (fun O' μ' hla hk => ⟨_, { r3 with state := if jump.isNone then .ready else .done, pending := jump }, rfl, rfl, World.putObj_heap_same (Array.getElem?_eq_some_iff.1 k1).1, hst3, rfl, k4, k5, k6, k7, fun t => (k8 t).mono hla _ hk⟩)
    obtain ⟨μ5, g1, g2, g3⟩ := C5.1.drop (((lr, .lrec (stOf jump) jump ld Tr) :: gp') ++ ((lr, .lrec .ready none ld Tr) :: R')) (fun k o h => by
        rw [hboth] at h
        simp only [getL] at h
        cases hb : lbeq lr k with
        | true =>
          rw [hb] at h
          rw [← lbeq_iff.1 hb, ovr_one_same]
          exact h
        | false =>
          rw [hb] at h
          rw [ovr_one_other _ _ (lbeq_false.1 hb)]
          exact hsub.spec k o h)
      (fun l hl => by
        have := (hE1 F).dom l hl
        rw [hboth]
        exact hkR l this)
      (fun l o h => by rw [hkey]; rw [hboth] at h; exact List.all_eq_true.1 hcg.spec _ (getL_mem h))
    exact hback _ μ5 _ g2 (by simp only [Cv, hr])
  refine roundIn_of_wpIn (F := Fence.wide) trivial (wpIn_mono (acode_sound (F := { F with ro := some b }) hΘ hm ld.assign (hE1 _) (h b) R1) ?_)
  rintro e a1 w1 ⟨z, T1, L1, μ', rfl, R2, hK⟩
  cases z with
  | exit i => exact hK.elim
  | ret => exact hK.elim
  | normal =>
    obtain ⟨hlr, hac⟩ := hK
    obtain ⟨r1, m1, k1, k2, k3, k4, k5, k6, k7, k8⟩ := same R2.core hlr
    refine ⟨_, run_beginRound k1 k2, ?_⟩
    have C2 := R2.core.setBox (w' := w1.putObj b (.loop { r1 with state := .busy })) lr _ _ m1 (.func (.yield b) #[] #[]) (some b) (kp.refl _) (.lrec .busy none ld Tr)
      (by simp) rfl rfl rfl (fun k _ hne => World.putObj_heap_other fun e => hne (by rw [e])) (fun k hk => .inl hk)
      (fun O' μ' hla hk => ⟨_, { r1 with state := .busy }, rfl, rfl, World.putObj_heap_same (Array.getElem?_eq_some_iff.1 k1).1, rfl, k3, k4, k5, k6, k7, fun t => (k8 t).mono hla _ hk⟩)
    have R3 : Rep G E1 F.N (w1.putObj b (.loop { r1 with state := .busy })) (updM μ' lr (.func (.yield b) #[] #[], some b)) (getT T1, getL ((lr, .lrec .busy none ld Tr) :: L1)) a1 := by
      refine ⟨?_, fun t => (R2.tmps t).mono C2.2.1 _ C2.2.2, R2.size, R2.defers.mono C2.2.1⟩
      have e1 : getL ((lr, ABox.lrec .busy none ld Tr) :: L1) = ovr (getL L1) [(lr, .lrec .busy none ld Tr)] := getL_ovr [(lr, .lrec .busy none ld Tr)] L1
      simp only
      rw [e1]
      exact C2.1
    refine wpIn_mono (acode_sound (F := { F with ro := some b }) hΘ hm ld.body (hE1 _) hac R3) ?_
    rintro e a2 w3 ⟨z2, T2, L2, μ3, rfl, R4, hK2⟩
    cases z2 with
    | normal => exact fin none hK2.1 hK2.2.1 hK2.2.2 R4
    | ret => exact fin (some .ret) hK2.1 hK2.2.1 hK2.2.2 R4
    | exit i => exact fin (some (.exit i)) hK2.1 hK2.2.1 hK2.2.2 R4
end Go.Ab
namespace Go.Ab
theorem getL_sup {gp L : BL} (h : ∀ l, keyB L l = true → keyB gp l = true) : getL (gp ++ L) = getL gp := funext fun l => by
  rw [getL_append]
  unfold ovr
  cases hx : getL gp l with
  | some o => rfl
  | none =>
    cases hy : getL L l with
    | none => simp [hy]
    | some o =>
      have := h l (by simp [keyB, hy])
      simp [keyB, hx] at this
theorem Conv.sup {G : GlP} {F : FE} {R : BL} {T : TL} {gp L : BL} (h : ∀ l, keyB L l = true → keyB gp l = true) : Conv G F R T (gp ++ L) T gp := fun E w μ a hE h0 => by
  rw [getL_sup h] at h0
  exact ⟨μ, h0⟩
theorem Conv.forget {G : GlP} {F : FE} {R : BL} {T T' : TL} {L : BL} (ht : SubT T' T) : Conv G F R T L T' L := fun E w μ a hE h0 =>
  ⟨μ, h0.core, fun k => by
    have hk := h0.tmps k
    simp only at hk ⊢
    rcases ht.spec k with e | e
    · rw [e]; simp [Cv]
    · rw [e]; exact hk, h0.size, h0.defers⟩
theorem LoopOK.forget {P : Program} {G : GlP} {F : FE} {R : BL} {c : Code} {T : TL} {L : BL} (T' : TL) {K : AE → TL → BL → Prop} (ht : SubT T' T) (h : LoopOK P G F R c T' L K) : LoopOK P G F R c T L K := LoopOK.conv (Conv.forget ht) h
theorem CallTo.yield {P : Program} {G : GlP} {fv : AV} {args : List AV} {L gp : BL} {K : AV → BL → Nat → Prop} {r : AV} (h : MeetsV P G fv args L r gp) (hk : ∀ l, keyB gp l = true → keyB L l = true) (hK : K r gp 3) : CallTo P G fv args L K :=
  ⟨r, L, gp, 3, h, fun _ _ h => h, fun l b hb => .inl (hk l (by simp [keyB, hb])), Cls.any, hK⟩
theorem Fin.all {P : Program} {G : GlP} {F : FE} (hΘ : TTok P F.Θ) {R : BL} {fn : Func} {gp : BL} {T : TL} (hr : fn.results.toList = []) (hk : ∀ l, keyB R l = true → keyB gp l = true) (hc : AllL (keyB gp) gp) : Fin P G F R fn (.tup []) gp T gp :=
  Fin.done hΘ [] (by rw [hr]; rfl) rfl (fun l o h => by rwa [getL_sup hk] at h) rfl (fun l o h => by
    have e : keyB (gp ++ R) = keyB gp := funext fun l => by simp only [keyB, getL_sup hk]
    rw [getL_sup hk] at h
    rw [e]
    exact List.all_eq_true.1 hc.spec _ (getL_mem h))
/-- What an iterator's rounds find, one behind the other. -/
structure IterS (f : FuncId) (lr : Lbl) (S : Nat → BL) : Prop where
  clo : ∀ i, AllL (keyB (S i)) (S i)
  keys : ∀ i l, keyB (S i) l = keyB (S 0) l
  here : keyB (S 0) lr = true
  fresh : ∀ d, getL (S 0) (f, d) = none
theorem IterS.new {f : FuncId} {lr : Lbl} {S : Nat → BL} (h : IterS f lr S) (i d : Nat) : getL (S i) (f, d) = none := by
  have := h.keys i (f, d)
  simp only [keyB, h.fresh d] at this
  cases hx : getL (S i) (f, d) with
  | none => rfl
  | some o => rw [hx] at this; cases this
theorem IterS.sup {f : FuncId} {lr : Lbl} {S : Nat → BL} (h : IterS f lr S) (i j : Nat) : ∀ l, keyB (S i) l = true → keyB (S j) l = true := fun l hl => by rw [h.keys j l, ← h.keys i l]; exact hl
/-- A function that hands over n things, one behind the other, till it is told to stop. -/
def Iter (P : Program) (G : GlP) (f : FuncId) (first cap : List AV) (n : Nat) (arg : Nat → List AV) : Prop :=
  ∀ (lr : Lbl) (S : Nat → BL) (k : Nat) (fin : BL), k ≤ n → IterS f lr S → (∀ i, i < k → MeetsV P G (.yv lr) (arg i) (S i) (.bool true) (S (i + 1))) →
    ((k = n ∧ fin = S n) ∨ (k < n ∧ fin = S (k + 1) ∧ MeetsV P G (.yv lr) (arg k) (S k) (.bool false) (S (k + 1)))) → Meets P G f (first ++ [.yv lr] ++ cap) (S 0) (.tup []) fin
theorem meets_iter {P : Program} {G : GlP} {F : FE} (hΘ : TTok P F.Θ) (hm : P.follows .mixedOrders = true) {f : FuncId} {fn : Func} {c : Code} {args : List AV} {lr : Lbl} {S : Nat → BL} {fin : BL}
    (hf : P.funcs[f]? = some fn) (hb : fn.body = some c) (hcall : ∀ (a : Array Value) (w : World), (callFunc f a).run P w = .ok (.enter f a) w) (hN : F.N = args.length + (fn.ntmps - args.length)) (hS : IterS f lr S)
    (hfin : ∃ j, fin = S j) (hca : cloL (keyB (S 0)) args = true)
    (h : acode P G F (S 0) c (argT 0 args) (S 0) (EndK P G F (S 0) fn (.tup []) fin)) (hro : F.ro = none := by rfl) : Meets P G f args (S 0) (.tup []) fin := by
  obtain ⟨j, rfl⟩ := hfin
  have hg := getL_sup (hS.sup 0 j)
  have e : keyB (S j ++ S 0) = keyB (S j) := funext fun l => by simp only [keyB, hg]
  exact meets_intro hΘ hm hf hb hcall hN hca (fun l o h => List.all_eq_true.1 (hS.clo 0).spec _ (getL_mem h)) rfl (fun l o h => by rw [hg] at h; rw [e]; exact List.all_eq_true.1 (hS.clo j).spec _ (getL_mem h)) h hro
end Go.Ab
namespace Go.Ab
/-- The loops over functions in a text, in order. -/
def rfs (N : Nat) : Code → List LD
  | .seq a b => rfs N a ++ rfs N b
  | .cond _ a b => rfs N a ++ rfs N b
  | .block _ c => rfs N c
  | .loop c => rfs N c
  | .scope c => rfs N c
  | .rangeFunc _ ps x y => ⟨ps, x, y, N⟩ :: (rfs N x ++ rfs N y)
  | _ => []
def ldOf (fn : Func) (N k : Nat) : LD := match fn.body with
  | some c => match nth (rfs N c) k with | some l => l | none => default
  | none => default
end Go.Ab
namespace Go.Ab
theorem keyB_cons {k l : Lbl} {o : ABox} {r : BL} : keyB ((k, o) :: r) l = (lbeq k l || keyB r l) := by
  simp only [keyB, getL]
  cases lbeq k l <;> rfl
end Go.Ab
namespace Go.Ab
/-- The loops of a text, in order. -/
def lps : Code → List Code
  | .seq a b => lps a ++ lps b
  | .cond _ a b => lps a ++ lps b
  | .block _ c => lps c
  | .loop c => c :: lps c
  | .scope c => lps c
  | .rangeFunc _ _ x y => lps x ++ lps y
  | _ => []
def loopOf (fn : Func) (k : Nat) : Code := match fn.body with
  | some c => match nth (lps c) k with | some l => l | none => .skip
  | none => .skip
theorem some_getD {α : Type} {l : List α} {j : Nat} (d : α) (h : j < l.length) : l[j]? = some (l.getD j d) := by simp [List.getD, h]
end Go.Ab
/- Names for the numbers of this translation's functions. Written by a program of ours. -/
set_option linter.unusedVariables false
namespace Go.Proofs.YtmfolelgdpkkoaaGreatDoor
open Go Go.Ab
noncomputable abbrev Pg : Program := Tryz.prog
abbrev F_gosem_cut_init : FuncId := 2
noncomputable abbrev fn_gosem_cut_init : Func := Tryz.f2
def fe_gosem_cut_init : FE := ⟨Th, 1, 2, [], [], [], none⟩
theorem func_gosem_cut_init : Pg.funcs[F_gosem_cut_init]? = some Tryz.f2 := Tryz.func2
theorem call_gosem_cut_init (a : Array Value) (w : World) : (callFunc F_gosem_cut_init a).run Pg w = .ok (.enter F_gosem_cut_init a) w := Tryz.call2 a w
abbrev F_law10_ExpandCalls : FuncId := 3
noncomputable abbrev fn_law10_ExpandCalls : Func := Tryz.f3
def fe_law10_ExpandCalls : FE := ⟨Th, 127, 3, [], [], [], none⟩
theorem func_law10_ExpandCalls : Pg.funcs[F_law10_ExpandCalls]? = some Tryz.f3 := Tryz.func3
theorem call_law10_ExpandCalls (a : Array Value) (w : World) : (callFunc F_law10_ExpandCalls a).run Pg w = .ok (.enter F_law10_ExpandCalls a) w := Tryz.call3 a w
abbrev F_law10_lives : FuncId := 4
noncomputable abbrev fn_law10_lives : Func := Tryz.f4
def fe_law10_lives : FE := ⟨Th, 22, 4, [], [], [], none⟩
theorem func_law10_lives : Pg.funcs[F_law10_lives]? = some Tryz.f4 := Tryz.func4
theorem call_law10_lives (a : Array Value) (w : World) : (callFunc F_law10_lives a).run Pg w = .ok (.enter F_law10_lives a) w := Tryz.call4 a w
abbrev F_law10_light : FuncId := 5
noncomputable abbrev fn_law10_light : Func := Tryz.f5
def fe_law10_light : FE := ⟨Th, 34, 5, [], [], [], none⟩
theorem func_law10_light : Pg.funcs[F_law10_light]? = some Tryz.f5 := Tryz.func5
theorem call_law10_light (a : Array Value) (w : World) : (callFunc F_law10_light a).run Pg w = .ok (.enter F_law10_light a) w := Tryz.call5 a w
abbrev F_expand_One : FuncId := 6
noncomputable abbrev fn_expand_One : Func := Tryz.f6
def fe_expand_One : FE := ⟨Th, 27, 6, [], [], [], none⟩
theorem func_expand_One : Pg.funcs[F_expand_One]? = some Tryz.f6 := Tryz.func6
theorem call_expand_One (a : Array Value) (w : World) : (callFunc F_expand_One a).run Pg w = .ok (.enter F_expand_One a) w := Tryz.call6 a w
abbrev F_ref10_One : FuncId := 7
noncomputable abbrev fn_ref10_One : Func := Tryz.f7
def fe_ref10_One : FE := ⟨Th, 31, 7, [], [], [], none⟩
theorem func_ref10_One : Pg.funcs[F_ref10_One]? = some Tryz.f7 := Tryz.func7
theorem call_ref10_One (a : Array Value) (w : World) : (callFunc F_ref10_One a).run Pg w = .ok (.enter F_ref10_One a) w := Tryz.call7 a w
abbrev F_expand_All : FuncId := 8
noncomputable abbrev fn_expand_All : Func := Tryz.f8
def fe_expand_All : FE := ⟨Th, 46, 8, [], [], [], none⟩
noncomputable def ld_expand_All (k : Nat) : LD := ldOf Tryz.f8 46 k
theorem func_expand_All : Pg.funcs[F_expand_All]? = some Tryz.f8 := Tryz.func8
theorem call_expand_All (a : Array Value) (w : World) : (callFunc F_expand_All a).run Pg w = .ok (.enter F_expand_All a) w := Tryz.call8 a w
abbrev F_ref10_All : FuncId := 9
noncomputable abbrev fn_ref10_All : Func := Tryz.f9
def fe_ref10_All : FE := ⟨Th, 57, 9, [], [], [], none⟩
theorem func_ref10_All : Pg.funcs[F_ref10_All]? = some Tryz.f9 := Tryz.func9
theorem call_ref10_All (a : Array Value) (w : World) : (callFunc F_ref10_All a).run Pg w = .ok (.enter F_ref10_All a) w := Tryz.call9 a w
abbrev F_expand_Later : FuncId := 10
noncomputable abbrev fn_expand_Later : Func := Tryz.f10
def fe_expand_Later : FE := ⟨Th, 77, 10, [], [], [], none⟩
theorem func_expand_Later : Pg.funcs[F_expand_Later]? = some Tryz.f10 := Tryz.func10
theorem call_expand_Later (a : Array Value) (w : World) : (callFunc F_expand_Later a).run Pg w = .ok (.enter F_expand_Later a) w := Tryz.call10 a w
abbrev F_kit_OwnRun : FuncId := 11
noncomputable abbrev fn_kit_OwnRun : Func := Tryz.f11
def fe_kit_OwnRun : FE := ⟨Th, 14, 11, [], [], [], none⟩
theorem func_kit_OwnRun : Pg.funcs[F_kit_OwnRun]? = some Tryz.f11 := Tryz.func11
theorem call_kit_OwnRun (a : Array Value) (w : World) : (callFunc F_kit_OwnRun a).run Pg w = .ok (.enter F_kit_OwnRun a) w := Tryz.call11 a w
abbrev F_ref10_Later : FuncId := 12
noncomputable abbrev fn_ref10_Later : Func := Tryz.f12
def fe_ref10_Later : FE := ⟨Th, 91, 12, [], [], [], none⟩
theorem func_ref10_Later : Pg.funcs[F_ref10_Later]? = some Tryz.f12 := Tryz.func12
theorem call_ref10_Later (a : Array Value) (w : World) : (callFunc F_ref10_Later a).run Pg w = .ok (.enter F_ref10_Later a) w := Tryz.call12 a w
abbrev F_expand_Count : FuncId := 13
noncomputable abbrev fn_expand_Count : Func := Tryz.f13
def fe_expand_Count : FE := ⟨Th, 17, 13, [], [], [], none⟩
theorem func_expand_Count : Pg.funcs[F_expand_Count]? = some Tryz.f13 := Tryz.func13
theorem call_expand_Count (a : Array Value) (w : World) : (callFunc F_expand_Count a).run Pg w = .ok (.enter F_expand_Count a) w := Tryz.call13 a w
abbrev F_ref10_Count : FuncId := 14
noncomputable abbrev fn_ref10_Count : Func := Tryz.f14
def fe_ref10_Count : FE := ⟨Th, 18, 14, [], [], [], none⟩
theorem func_ref10_Count : Pg.funcs[F_ref10_Count]? = some Tryz.f14 := Tryz.func14
theorem call_ref10_Count (a : Array Value) (w : World) : (callFunc F_ref10_Count a).run Pg w = .ok (.enter F_ref10_Count a) w := Tryz.call14 a w
abbrev F_kit_Run : FuncId := 15
noncomputable abbrev fn_kit_Run : Func := Tryz.f15
def fe_kit_Run : FE := ⟨Th, 31, 15, [], [], [], none⟩
theorem func_kit_Run : Pg.funcs[F_kit_Run]? = some Tryz.f15 := Tryz.func15
theorem call_kit_Run (a : Array Value) (w : World) : (callFunc F_kit_Run a).run Pg w = .ok (.enter F_kit_Run a) w := Tryz.call15 a w
abbrev F_kit_Runs : FuncId := 16
noncomputable abbrev fn_kit_Runs : Func := Tryz.f16
def fe_kit_Runs : FE := ⟨Th, 27, 16, [], [], [], none⟩
theorem func_kit_Runs : Pg.funcs[F_kit_Runs]? = some Tryz.f16 := Tryz.func16
theorem call_kit_Runs (a : Array Value) (w : World) : (callFunc F_kit_Runs a).run Pg w = .ok (.enter F_kit_Runs a) w := Tryz.call16 a w
abbrev F_expand_Check : FuncId := 17
noncomputable abbrev fn_expand_Check : Func := Tryz.f17
def fe_expand_Check : FE := ⟨Th, 48, 17, [], [], [], none⟩
theorem func_expand_Check : Pg.funcs[F_expand_Check]? = some Tryz.f17 := Tryz.func17
theorem call_expand_Check (a : Array Value) (w : World) : (callFunc F_expand_Check a).run Pg w = .ok (.enter F_expand_Check a) w := Tryz.call17 a w
abbrev F_ref10_Check : FuncId := 18
noncomputable abbrev fn_ref10_Check : Func := Tryz.f18
def fe_ref10_Check : FE := ⟨Th, 60, 18, [], [], [], none⟩
theorem func_ref10_Check : Pg.funcs[F_ref10_Check]? = some Tryz.f18 := Tryz.func18
theorem call_ref10_Check (a : Array Value) (w : World) : (callFunc F_ref10_Check a).run Pg w = .ok (.enter F_ref10_Check a) w := Tryz.call18 a w
abbrev F_law10_example : FuncId := 19
noncomputable abbrev fn_law10_example : Func := Tryz.f19
def fe_law10_example : FE := ⟨Th, 13, 19, [], [], [], none⟩
theorem func_law10_example : Pg.funcs[F_law10_example]? = some Tryz.f19 := Tryz.func19
theorem call_law10_example (a : Array Value) (w : World) : (callFunc F_law10_example a).run Pg w = .ok (.enter F_law10_example a) w := Tryz.call19 a w
abbrev F_kit_LightWorld : FuncId := 20
noncomputable abbrev fn_kit_LightWorld : Func := Tryz.f20
def fe_kit_LightWorld : FE := ⟨Th, 117, 20, [], [], [], none⟩
theorem func_kit_LightWorld : Pg.funcs[F_kit_LightWorld]? = some Tryz.f20 := Tryz.func20
theorem call_kit_LightWorld (a : Array Value) (w : World) : (callFunc F_kit_LightWorld a).run Pg w = .ok (.enter F_kit_LightWorld a) w := Tryz.call20 a w
abbrev F_ref09_Check : FuncId := 21
noncomputable abbrev fn_ref09_Check : Func := Tryz.f21
def fe_ref09_Check : FE := ⟨Th, 16, 21, [], [], [], none⟩
theorem func_ref09_Check : Pg.funcs[F_ref09_Check]? = some Tryz.f21 := Tryz.func21
theorem call_ref09_Check (a : Array Value) (w : World) : (callFunc F_ref09_Check a).run Pg w = .ok (.enter F_ref09_Check a) w := Tryz.call21 a w
abbrev F_expand_good : FuncId := 22
noncomputable abbrev fn_expand_good : Func := Tryz.f22
def fe_expand_good : FE := ⟨Th, 7, 22, [], [], [], none⟩
theorem func_expand_good : Pg.funcs[F_expand_good]? = some Tryz.f22 := Tryz.func22
theorem call_expand_good (a : Array Value) (w : World) : (callFunc F_expand_good a).run Pg w = .ok (.enter F_expand_good a) w := Tryz.call22 a w
abbrev F_expand_is : FuncId := 23
noncomputable abbrev fn_expand_is : Func := Tryz.f23
def fe_expand_is : FE := ⟨Th, 14, 23, [], [], [], none⟩
theorem func_expand_is : Pg.funcs[F_expand_is]? = some Tryz.f23 := Tryz.func23
theorem call_expand_is (a : Array Value) (w : World) : (callFunc F_expand_is a).run Pg w = .ok (.enter F_expand_is a) w := Tryz.call23 a w
abbrev F_expand_one : FuncId := 24
noncomputable abbrev fn_expand_one : Func := Tryz.f24
def fe_expand_one : FE := ⟨Th, 67, 24, [], [], [], none⟩
theorem func_expand_one : Pg.funcs[F_expand_one]? = some Tryz.f24 := Tryz.func24
theorem call_expand_one (a : Array Value) (w : World) : (callFunc F_expand_one a).run Pg w = .ok (.enter F_expand_one a) w := Tryz.call24 a w
abbrev F_ref10_is : FuncId := 25
noncomputable abbrev fn_ref10_is : Func := Tryz.f25
def fe_ref10_is : FE := ⟨Th, 14, 25, [], [], [], none⟩
theorem func_ref10_is : Pg.funcs[F_ref10_is]? = some Tryz.f25 := Tryz.func25
theorem call_ref10_is (a : Array Value) (w : World) : (callFunc F_ref10_is a).run Pg w = .ok (.enter F_ref10_is a) w := Tryz.call25 a w
abbrev F_ref10_run : FuncId := 26
noncomputable abbrev fn_ref10_run : Func := Tryz.f26
def fe_ref10_run : FE := ⟨Th, 107, 26, [], [], [], none⟩
theorem func_ref10_run : Pg.funcs[F_ref10_run]? = some Tryz.f26 := Tryz.func26
theorem call_ref10_run (a : Array Value) (w : World) : (callFunc F_ref10_run a).run Pg w = .ok (.enter F_ref10_run a) w := Tryz.call26 a w
abbrev F_expand_each : FuncId := 27
noncomputable abbrev fn_expand_each : Func := Tryz.f27
def fe_expand_each : FE := ⟨Th, 4, 27, [], [], [], none⟩
theorem func_expand_each : Pg.funcs[F_expand_each]? = some Tryz.f27 := Tryz.func27
theorem call_expand_each (a : Array Value) (w : World) : (callFunc F_expand_each a).run Pg w = .ok (.enter F_expand_each a) w := Tryz.call27 a w
abbrev F_ref10_count : FuncId := 28
noncomputable abbrev fn_ref10_count : Func := Tryz.f28
def fe_ref10_count : FE := ⟨Th, 48, 28, [], [], [], none⟩
theorem func_ref10_count : Pg.funcs[F_ref10_count]? = some Tryz.f28 := Tryz.func28
theorem call_ref10_count (a : Array Value) (w : World) : (callFunc F_ref10_count a).run Pg w = .ok (.enter F_ref10_count a) w := Tryz.call28 a w
abbrev F_expand_times : FuncId := 29
noncomputable abbrev fn_expand_times : Func := Tryz.f29
def fe_expand_times : FE := ⟨Th, 81, 29, [], [], [], none⟩
theorem func_expand_times : Pg.funcs[F_expand_times]? = some Tryz.f29 := Tryz.func29
theorem call_expand_times (a : Array Value) (w : World) : (callFunc F_expand_times a).run Pg w = .ok (.enter F_expand_times a) w := Tryz.call29 a w
abbrev F_expand_end : FuncId := 30
noncomputable abbrev fn_expand_end : Func := Tryz.f30
def fe_expand_end : FE := ⟨Th, 11, 30, [], [], [], none⟩
theorem func_expand_end : Pg.funcs[F_expand_end]? = some Tryz.f30 := Tryz.func30
theorem call_expand_end (a : Array Value) (w : World) : (callFunc F_expand_end a).run Pg w = .ok (.enter F_expand_end a) w := Tryz.call30 a w
abbrev F_slices_Clone_int64_int64 : FuncId := 31
noncomputable abbrev fn_slices_Clone_int64_int64 : Func := Tryz.f31
def fe_slices_Clone_int64_int64 : FE := ⟨Th, 8, 31, [], [], [], none⟩
theorem func_slices_Clone_int64_int64 : Pg.funcs[F_slices_Clone_int64_int64]? = some Tryz.f31 := Tryz.func31
theorem call_slices_Clone_int64_int64 (a : Array Value) (w : World) : (callFunc F_slices_Clone_int64_int64 a).run Pg w = .ok (.enter F_slices_Clone_int64_int64 a) w := Tryz.call31 a w
abbrev F_kit_Own_int64 : FuncId := 32
noncomputable abbrev fn_kit_Own_int64 : Func := Tryz.f32
def fe_kit_Own_int64 : FE := ⟨Th, 6, 32, [], [], [], none⟩
theorem func_kit_Own_int64 : Pg.funcs[F_kit_Own_int64]? = some Tryz.f32 := Tryz.func32
theorem call_kit_Own_int64 (a : Array Value) (w : World) : (callFunc F_kit_Own_int64 a).run Pg w = .ok (.enter F_kit_Own_int64 a) w := Tryz.call32 a w
abbrev F_ref10_Times : FuncId := 33
noncomputable abbrev fn_ref10_Times : Func := Tryz.f33
def fe_ref10_Times : FE := ⟨Th, 89, 33, [], [], [], none⟩
theorem func_ref10_Times : Pg.funcs[F_ref10_Times]? = some Tryz.f33 := Tryz.func33
theorem call_ref10_Times (a : Array Value) (w : World) : (callFunc F_ref10_Times a).run Pg w = .ok (.enter F_ref10_Times a) w := Tryz.call33 a w
abbrev F_expand_count : FuncId := 34
noncomputable abbrev fn_expand_count : Func := Tryz.f34
def fe_expand_count : FE := ⟨Th, 20, 34, [], [], [], none⟩
theorem func_expand_count : Pg.funcs[F_expand_count]? = some Tryz.f34 := Tryz.func34
theorem call_expand_count (a : Array Value) (w : World) : (callFunc F_expand_count a).run Pg w = .ok (.enter F_expand_count a) w := Tryz.call34 a w
abbrev F_kit_Same_int64 : FuncId := 35
noncomputable abbrev fn_kit_Same_int64 : Func := Tryz.f35
def fe_kit_Same_int64 : FE := ⟨Th, 26, 35, [], [], [], none⟩
theorem func_kit_Same_int64 : Pg.funcs[F_kit_Same_int64]? = some Tryz.f35 := Tryz.func35
theorem call_kit_Same_int64 (a : Array Value) (w : World) : (callFunc F_kit_Same_int64 a).run Pg w = .ok (.enter F_kit_Same_int64 a) w := Tryz.call35 a w
abbrev F_ref09_whole : FuncId := 36
noncomputable abbrev fn_ref09_whole : Func := Tryz.f36
def fe_ref09_whole : FE := ⟨Th, 201, 36, [], [], [], none⟩
theorem func_ref09_whole : Pg.funcs[F_ref09_whole]? = some Tryz.f36 := Tryz.func36
theorem call_ref09_whole (a : Array Value) (w : World) : (callFunc F_ref09_whole a).run Pg w = .ok (.enter F_ref09_whole a) w := Tryz.call36 a w
abbrev F_ref09_wrong : FuncId := 37
noncomputable abbrev fn_ref09_wrong : Func := Tryz.f37
def fe_ref09_wrong : FE := ⟨Th, 11, 37, [], [], [], none⟩
theorem func_ref09_wrong : Pg.funcs[F_ref09_wrong]? = some Tryz.f37 := Tryz.func37
theorem call_ref09_wrong (a : Array Value) (w : World) : (callFunc F_ref09_wrong a).run Pg w = .ok (.enter F_ref09_wrong a) w := Tryz.call37 a w
abbrev F_ref09_Make : FuncId := 38
noncomputable abbrev fn_ref09_Make : Func := Tryz.f38
def fe_ref09_Make : FE := ⟨Th, 31, 38, [], [], [], none⟩
theorem func_ref09_Make : Pg.funcs[F_ref09_Make]? = some Tryz.f38 := Tryz.func38
theorem call_ref09_Make (a : Array Value) (w : World) : (callFunc F_ref09_Make a).run Pg w = .ok (.enter F_ref09_Make a) w := Tryz.call38 a w
abbrev F_ref09_told : FuncId := 39
noncomputable abbrev fn_ref09_told : Func := Tryz.f39
def fe_ref09_told : FE := ⟨Th, 270, 39, [], [], [], none⟩
theorem func_ref09_told : Pg.funcs[F_ref09_told]? = some Tryz.f39 := Tryz.func39
theorem call_ref09_told (a : Array Value) (w : World) : (callFunc F_ref09_told a).run Pg w = .ok (.enter F_ref09_told a) w := Tryz.call39 a w
abbrev F_world_Check : FuncId := 40
noncomputable abbrev fn_world_Check : Func := Tryz.f40
def fe_world_Check : FE := ⟨Th, 16, 40, [], [], [], none⟩
theorem func_world_Check : Pg.funcs[F_world_Check]? = some Tryz.f40 := Tryz.func40
theorem call_world_Check (a : Array Value) (w : World) : (callFunc F_world_Check a).run Pg w = .ok (.enter F_world_Check a) w := Tryz.call40 a w
abbrev F_tick_Count : FuncId := 41
noncomputable abbrev fn_tick_Count : Func := Tryz.f41
def fe_tick_Count : FE := ⟨Th, 35, 41, [], [], [], none⟩
theorem func_tick_Count : Pg.funcs[F_tick_Count]? = some Tryz.f41 := Tryz.func41
theorem call_tick_Count (a : Array Value) (w : World) : (callFunc F_tick_Count a).run Pg w = .ok (.enter F_tick_Count a) w := Tryz.call41 a w
abbrev F_tick_At : FuncId := 42
noncomputable abbrev fn_tick_At : Func := Tryz.f42
def fe_tick_At : FE := ⟨Th, 44, 42, [], [], [], none⟩
theorem func_tick_At : Pg.funcs[F_tick_At]? = some Tryz.f42 := Tryz.func42
theorem call_tick_At (a : Array Value) (w : World) : (callFunc F_tick_At a).run Pg w = .ok (.enter F_tick_At a) w := Tryz.call42 a w
abbrev F_expand_run : FuncId := 43
noncomputable abbrev fn_expand_run : Func := Tryz.f43
def fe_expand_run : FE := ⟨Th, 4, 43, [], [], [], none⟩
theorem func_expand_run : Pg.funcs[F_expand_run]? = some Tryz.f43 := Tryz.func43
theorem call_expand_run (a : Array Value) (w : World) : (callFunc F_expand_run a).run Pg w = .ok (.enter F_expand_run a) w := Tryz.call43 a w
abbrev F_ref01_Count : FuncId := 44
noncomputable abbrev fn_ref01_Count : Func := Tryz.f44
def fe_ref01_Count : FE := ⟨Th, 33, 44, [], [], [], none⟩
theorem func_ref01_Count : Pg.funcs[F_ref01_Count]? = some Tryz.f44 := Tryz.func44
theorem call_ref01_Count (a : Array Value) (w : World) : (callFunc F_ref01_Count a).run Pg w = .ok (.enter F_ref01_Count a) w := Tryz.call44 a w
abbrev F_ref01_At : FuncId := 45
noncomputable abbrev fn_ref01_At : Func := Tryz.f45
def fe_ref01_At : FE := ⟨Th, 42, 45, [], [], [], none⟩
theorem func_ref01_At : Pg.funcs[F_ref01_At]? = some Tryz.f45 := Tryz.func45
theorem call_ref01_At (a : Array Value) (w : World) : (callFunc F_ref01_At a).run Pg w = .ok (.enter F_ref01_At a) w := Tryz.call45 a w
abbrev F_expand_each_1 : FuncId := 46
noncomputable abbrev fn_expand_each_1 : Func := Tryz.f46
def fe_expand_each_1 : FE := ⟨Th, 18, 46, [], [], [], none⟩
theorem func_expand_each_1 : Pg.funcs[F_expand_each_1]? = some Tryz.f46 := Tryz.func46
theorem call_expand_each_1 (a : Array Value) (w : World) : (callFunc F_expand_each_1 a).run Pg w = .ok (.enter F_expand_each_1 a) w := Tryz.call46 a w
abbrev F_sort_Search : FuncId := 47
noncomputable abbrev fn_sort_Search : Func := Tryz.f47
def fe_sort_Search : FE := ⟨Th, 26, 47, [], [], [], none⟩
theorem func_sort_Search : Pg.funcs[F_sort_Search]? = some Tryz.f47 := Tryz.func47
theorem call_sort_Search (a : Array Value) (w : World) : (callFunc F_sort_Search a).run Pg w = .ok (.enter F_sort_Search a) w := Tryz.call47 a w
abbrev F_expand_count_1 : FuncId := 48
noncomputable abbrev fn_expand_count_1 : Func := Tryz.f48
def fe_expand_count_1 : FE := ⟨Th, 16, 48, [], [], [], none⟩
theorem func_expand_count_1 : Pg.funcs[F_expand_count_1]? = some Tryz.f48 := Tryz.func48
theorem call_expand_count_1 (a : Array Value) (w : World) : (callFunc F_expand_count_1 a).run Pg w = .ok (.enter F_expand_count_1 a) w := Tryz.call48 a w
abbrev F_ref09_in : FuncId := 49
noncomputable abbrev fn_ref09_in : Func := Tryz.f49
def fe_ref09_in : FE := ⟨Th, 13, 49, [], [], [], none⟩
theorem func_ref09_in : Pg.funcs[F_ref09_in]? = some Tryz.f49 := Tryz.func49
theorem call_ref09_in (a : Array Value) (w : World) : (callFunc F_ref09_in a).run Pg w = .ok (.enter F_ref09_in a) w := Tryz.call49 a w
abbrev F_ref05_Check : FuncId := 50
noncomputable abbrev fn_ref05_Check : Func := Tryz.f50
def fe_ref05_Check : FE := ⟨Th, 109, 50, [], [], [], none⟩
theorem func_ref05_Check : Pg.funcs[F_ref05_Check]? = some Tryz.f50 := Tryz.func50
theorem call_ref05_Check (a : Array Value) (w : World) : (callFunc F_ref05_Check a).run Pg w = .ok (.enter F_ref05_Check a) w := Tryz.call50 a w
abbrev F_ref09_numbered : FuncId := 51
noncomputable abbrev fn_ref09_numbered : Func := Tryz.f51
def fe_ref09_numbered : FE := ⟨Th, 241, 51, [], [], [], none⟩
theorem func_ref09_numbered : Pg.funcs[F_ref09_numbered]? = some Tryz.f51 := Tryz.func51
theorem call_ref09_numbered (a : Array Value) (w : World) : (callFunc F_ref09_numbered a).run Pg w = .ok (.enter F_ref09_numbered a) w := Tryz.call51 a w
abbrev F_ref09_twice : FuncId := 52
noncomputable abbrev fn_ref09_twice : Func := Tryz.f52
def fe_ref09_twice : FE := ⟨Th, 49, 52, [], [], [], none⟩
theorem func_ref09_twice : Pg.funcs[F_ref09_twice]? = some Tryz.f52 := Tryz.func52
theorem call_ref09_twice (a : Array Value) (w : World) : (callFunc F_ref09_twice a).run Pg w = .ok (.enter F_ref09_twice a) w := Tryz.call52 a w
abbrev F_ref09_first : FuncId := 53
noncomputable abbrev fn_ref09_first : Func := Tryz.f53
def fe_ref09_first : FE := ⟨Th, 157, 53, [], [], [], none⟩
theorem func_ref09_first : Pg.funcs[F_ref09_first]? = some Tryz.f53 := Tryz.func53
theorem call_ref09_first (a : Array Value) (w : World) : (callFunc F_ref09_first a).run Pg w = .ok (.enter F_ref09_first a) w := Tryz.call53 a w
abbrev F_world_whole : FuncId := 54
noncomputable abbrev fn_world_whole : Func := Tryz.f54
def fe_world_whole : FE := ⟨Th, 85, 54, [], [], [], none⟩
theorem func_world_whole : Pg.funcs[F_world_whole]? = some Tryz.f54 := Tryz.func54
theorem call_world_whole (a : Array Value) (w : World) : (callFunc F_world_whole a).run Pg w = .ok (.enter F_world_whole a) w := Tryz.call54 a w
abbrev F_world_Make : FuncId := 55
noncomputable abbrev fn_world_Make : Func := Tryz.f55
def fe_world_Make : FE := ⟨Th, 24, 55, [], [], [], none⟩
theorem func_world_Make : Pg.funcs[F_world_Make]? = some Tryz.f55 := Tryz.func55
theorem call_world_Make (a : Array Value) (w : World) : (callFunc F_world_Make a).run Pg w = .ok (.enter F_world_Make a) w := Tryz.call55 a w
abbrev F_world_told : FuncId := 56
noncomputable abbrev fn_world_told : Func := Tryz.f56
def fe_world_told : FE := ⟨Th, 190, 56, [], [], [], none⟩
theorem func_world_told : Pg.funcs[F_world_told]? = some Tryz.f56 := Tryz.func56
theorem call_world_told (a : Array Value) (w : World) : (callFunc F_world_told a).run Pg w = .ok (.enter F_world_told a) w := Tryz.call56 a w
abbrev F_tick_Check : FuncId := 57
noncomputable abbrev fn_tick_Check : Func := Tryz.f57
def fe_tick_Check : FE := ⟨Th, 6, 57, [], [], [], none⟩
theorem func_tick_Check : Pg.funcs[F_tick_Check]? = some Tryz.f57 := Tryz.func57
theorem call_tick_Check (a : Array Value) (w : World) : (callFunc F_tick_Check a).run Pg w = .ok (.enter F_tick_Check a) w := Tryz.call57 a w
abbrev F_tick_Mul : FuncId := 58
noncomputable abbrev fn_tick_Mul : Func := Tryz.f58
def fe_tick_Mul : FE := ⟨Th, 32, 58, [], [], [], none⟩
theorem func_tick_Mul : Pg.funcs[F_tick_Mul]? = some Tryz.f58 := Tryz.func58
theorem call_tick_Mul (a : Array Value) (w : World) : (callFunc F_tick_Mul a).run Pg w = .ok (.enter F_tick_Mul a) w := Tryz.call58 a w
abbrev F_tick_Add : FuncId := 59
noncomputable abbrev fn_tick_Add : Func := Tryz.f59
def fe_tick_Add : FE := ⟨Th, 26, 59, [], [], [], none⟩
theorem func_tick_Add : Pg.funcs[F_tick_Add]? = some Tryz.f59 := Tryz.func59
theorem call_tick_Add (a : Array Value) (w : World) : (callFunc F_tick_Add a).run Pg w = .ok (.enter F_tick_Add a) w := Tryz.call59 a w
abbrev F_expand_run_1 : FuncId := 60
noncomputable abbrev fn_expand_run_1 : Func := Tryz.f60
def fe_expand_run_1 : FE := ⟨Th, 49, 60, [], [], [], none⟩
theorem func_expand_run_1 : Pg.funcs[F_expand_run_1]? = some Tryz.f60 := Tryz.func60
theorem call_expand_run_1 (a : Array Value) (w : World) : (callFunc F_expand_run_1 a).run Pg w = .ok (.enter F_expand_run_1 a) w := Tryz.call60 a w
abbrev F_ref01_Check : FuncId := 61
noncomputable abbrev fn_ref01_Check : Func := Tryz.f61
def fe_ref01_Check : FE := ⟨Th, 9, 61, [], [], [], none⟩
theorem func_ref01_Check : Pg.funcs[F_ref01_Check]? = some Tryz.f61 := Tryz.func61
theorem call_ref01_Check (a : Array Value) (w : World) : (callFunc F_ref01_Check a).run Pg w = .ok (.enter F_ref01_Check a) w := Tryz.call61 a w
abbrev F_ref05_names : FuncId := 62
noncomputable abbrev fn_ref05_names : Func := Tryz.f62
def fe_ref05_names : FE := ⟨Th, 137, 62, [], [], [], none⟩
theorem func_ref05_names : Pg.funcs[F_ref05_names]? = some Tryz.f62 := Tryz.func62
theorem call_ref05_names (a : Array Value) (w : World) : (callFunc F_ref05_names a).run Pg w = .ok (.enter F_ref05_names a) w := Tryz.call62 a w
abbrev F_ref04_Name : FuncId := 63
noncomputable abbrev fn_ref04_Name : Func := Tryz.f63
def fe_ref04_Name : FE := ⟨Th, 10, 63, [], [], [], none⟩
theorem func_ref04_Name : Pg.funcs[F_ref04_Name]? = some Tryz.f63 := Tryz.func63
theorem call_ref04_Name (a : Array Value) (w : World) : (callFunc F_ref04_Name a).run Pg w = .ok (.enter F_ref04_Name a) w := Tryz.call63 a w
abbrev F_ref05_numbers : FuncId := 64
noncomputable abbrev fn_ref05_numbers : Func := Tryz.f64
def fe_ref05_numbers : FE := ⟨Th, 147, 64, [], [], [], none⟩
theorem func_ref05_numbers : Pg.funcs[F_ref05_numbers]? = some Tryz.f64 := Tryz.func64
theorem call_ref05_numbers (a : Array Value) (w : World) : (callFunc F_ref05_numbers a).run Pg w = .ok (.enter F_ref05_numbers a) w := Tryz.call64 a w
abbrev F_ref09_named : FuncId := 65
noncomputable abbrev fn_ref09_named : Func := Tryz.f65
def fe_ref09_named : FE := ⟨Th, 105, 65, [], [], [], none⟩
theorem func_ref09_named : Pg.funcs[F_ref09_named]? = some Tryz.f65 := Tryz.func65
theorem call_ref09_named (a : Array Value) (w : World) : (callFunc F_ref09_named a).run Pg w = .ok (.enter F_ref09_named a) w := Tryz.call65 a w
abbrev F_ref09_place : FuncId := 66
noncomputable abbrev fn_ref09_place : Func := Tryz.f66
def fe_ref09_place : FE := ⟨Th, 19, 66, [], [], [], none⟩
theorem func_ref09_place : Pg.funcs[F_ref09_place]? = some Tryz.f66 := Tryz.func66
theorem call_ref09_place (a : Array Value) (w : World) : (callFunc F_ref09_place a).run Pg w = .ok (.enter F_ref09_place a) w := Tryz.call66 a w
abbrev F_ref09_lists : FuncId := 67
noncomputable abbrev fn_ref09_lists : Func := Tryz.f67
def fe_ref09_lists : FE := ⟨Th, 16, 67, [], [], [], none⟩
theorem func_ref09_lists : Pg.funcs[F_ref09_lists]? = some Tryz.f67 := Tryz.func67
theorem call_ref09_lists (a : Array Value) (w : World) : (callFunc F_ref09_lists a).run Pg w = .ok (.enter F_ref09_lists a) w := Tryz.call67 a w
abbrev F_ref09_way : FuncId := 68
noncomputable abbrev fn_ref09_way : Func := Tryz.f68
def fe_ref09_way : FE := ⟨Th, 20, 68, [], [], [], none⟩
theorem func_ref09_way : Pg.funcs[F_ref09_way]? = some Tryz.f68 := Tryz.func68
theorem call_ref09_way (a : Array Value) (w : World) : (callFunc F_ref09_way a).run Pg w = .ok (.enter F_ref09_way a) w := Tryz.call68 a w
abbrev F_ref09_times : FuncId := 69
noncomputable abbrev fn_ref09_times : Func := Tryz.f69
def fe_ref09_times : FE := ⟨Th, 14, 69, [], [], [], none⟩
theorem func_ref09_times : Pg.funcs[F_ref09_times]? = some Tryz.f69 := Tryz.func69
theorem call_ref09_times (a : Array Value) (w : World) : (callFunc F_ref09_times a).run Pg w = .ok (.enter F_ref09_times a) w := Tryz.call69 a w
abbrev F_ref09_route : FuncId := 70
noncomputable abbrev fn_ref09_route : Func := Tryz.f70
def fe_ref09_route : FE := ⟨Th, 46, 70, [], [], [], none⟩
theorem func_ref09_route : Pg.funcs[F_ref09_route]? = some Tryz.f70 := Tryz.func70
theorem call_ref09_route (a : Array Value) (w : World) : (callFunc F_ref09_route a).run Pg w = .ok (.enter F_ref09_route a) w := Tryz.call70 a w
abbrev F_world_whole_1 : FuncId := 71
noncomputable abbrev fn_world_whole_1 : Func := Tryz.f71
def fe_world_whole_1 : FE := ⟨Th, 13, 71, [], [], [], none⟩
theorem func_world_whole_1 : Pg.funcs[F_world_whole_1]? = some Tryz.f71 := Tryz.func71
theorem call_world_whole_1 (a : Array Value) (w : World) : (callFunc F_world_whole_1 a).run Pg w = .ok (.enter F_world_whole_1 a) w := Tryz.call71 a w
abbrev F_world_whole_2 : FuncId := 72
noncomputable abbrev fn_world_whole_2 : Func := Tryz.f72
def fe_world_whole_2 : FE := ⟨Th, 11, 72, [], [], [], none⟩
theorem func_world_whole_2 : Pg.funcs[F_world_whole_2]? = some Tryz.f72 := Tryz.func72
theorem call_world_whole_2 (a : Array Value) (w : World) : (callFunc F_world_whole_2 a).run Pg w = .ok (.enter F_world_whole_2 a) w := Tryz.call72 a w
abbrev F_slices_ContainsFunc_api_PathOf_api_PathOf : FuncId := 73
noncomputable abbrev fn_slices_ContainsFunc_api_PathOf_api_PathOf : Func := Tryz.f73
def fe_slices_ContainsFunc_api_PathOf_api_PathOf : FE := ⟨Th, 9, 73, [], [], [], none⟩
theorem func_slices_ContainsFunc_api_PathOf_api_PathOf : Pg.funcs[F_slices_ContainsFunc_api_PathOf_api_PathOf]? = some Tryz.f73 := Tryz.func73
theorem call_slices_ContainsFunc_api_PathOf_api_PathOf (a : Array Value) (w : World) : (callFunc F_slices_ContainsFunc_api_PathOf_api_PathOf a).run Pg w = .ok (.enter F_slices_ContainsFunc_api_PathOf_api_PathOf a) w := Tryz.call73 a w
abbrev F_world_whole_3 : FuncId := 74
noncomputable abbrev fn_world_whole_3 : Func := Tryz.f74
def fe_world_whole_3 : FE := ⟨Th, 14, 74, [], [], [], none⟩
theorem func_world_whole_3 : Pg.funcs[F_world_whole_3]? = some Tryz.f74 := Tryz.func74
theorem call_world_whole_3 (a : Array Value) (w : World) : (callFunc F_world_whole_3 a).run Pg w = .ok (.enter F_world_whole_3 a) w := Tryz.call74 a w
abbrev F_slices_ContainsFunc_api_DoorOf_api_DoorOf : FuncId := 75
noncomputable abbrev fn_slices_ContainsFunc_api_DoorOf_api_DoorOf : Func := Tryz.f75
def fe_slices_ContainsFunc_api_DoorOf_api_DoorOf : FE := ⟨Th, 9, 75, [], [], [], none⟩
theorem func_slices_ContainsFunc_api_DoorOf_api_DoorOf : Pg.funcs[F_slices_ContainsFunc_api_DoorOf_api_DoorOf]? = some Tryz.f75 := Tryz.func75
theorem call_slices_ContainsFunc_api_DoorOf_api_DoorOf (a : Array Value) (w : World) : (callFunc F_slices_ContainsFunc_api_DoorOf_api_DoorOf a).run Pg w = .ok (.enter F_slices_ContainsFunc_api_DoorOf_api_DoorOf a) w := Tryz.call75 a w
abbrev F_world_whole_4 : FuncId := 76
noncomputable abbrev fn_world_whole_4 : Func := Tryz.f76
def fe_world_whole_4 : FE := ⟨Th, 14, 76, [], [], [], none⟩
theorem func_world_whole_4 : Pg.funcs[F_world_whole_4]? = some Tryz.f76 := Tryz.func76
theorem call_world_whole_4 (a : Array Value) (w : World) : (callFunc F_world_whole_4 a).run Pg w = .ok (.enter F_world_whole_4 a) w := Tryz.call76 a w
abbrev F_slices_ContainsFunc_api_RouteOf_api_RouteOf : FuncId := 77
noncomputable abbrev fn_slices_ContainsFunc_api_RouteOf_api_RouteOf : Func := Tryz.f77
def fe_slices_ContainsFunc_api_RouteOf_api_RouteOf : FE := ⟨Th, 9, 77, [], [], [], none⟩
theorem func_slices_ContainsFunc_api_RouteOf_api_RouteOf : Pg.funcs[F_slices_ContainsFunc_api_RouteOf_api_RouteOf]? = some Tryz.f77 := Tryz.func77
theorem call_slices_ContainsFunc_api_RouteOf_api_RouteOf (a : Array Value) (w : World) : (callFunc F_slices_ContainsFunc_api_RouteOf_api_RouteOf a).run Pg w = .ok (.enter F_slices_ContainsFunc_api_RouteOf_api_RouteOf a) w := Tryz.call77 a w
abbrev F_world_whole_5 : FuncId := 78
noncomputable abbrev fn_world_whole_5 : Func := Tryz.f78
def fe_world_whole_5 : FE := ⟨Th, 8, 78, [], [], [], none⟩
theorem func_world_whole_5 : Pg.funcs[F_world_whole_5]? = some Tryz.f78 := Tryz.func78
theorem call_world_whole_5 (a : Array Value) (w : World) : (callFunc F_world_whole_5 a).run Pg w = .ok (.enter F_world_whole_5 a) w := Tryz.call78 a w
abbrev F_slices_ContainsFunc_int_int : FuncId := 79
noncomputable abbrev fn_slices_ContainsFunc_int_int : Func := Tryz.f79
def fe_slices_ContainsFunc_int_int : FE := ⟨Th, 9, 79, [], [], [], none⟩
theorem func_slices_ContainsFunc_int_int : Pg.funcs[F_slices_ContainsFunc_int_int]? = some Tryz.f79 := Tryz.func79
theorem call_slices_ContainsFunc_int_int (a : Array Value) (w : World) : (callFunc F_slices_ContainsFunc_int_int a).run Pg w = .ok (.enter F_slices_ContainsFunc_int_int a) w := Tryz.call79 a w
abbrev F_slices_ContainsFunc_api_TripOf_api_TripOf : FuncId := 80
noncomputable abbrev fn_slices_ContainsFunc_api_TripOf_api_TripOf : Func := Tryz.f80
def fe_slices_ContainsFunc_api_TripOf_api_TripOf : FE := ⟨Th, 9, 80, [], [], [], none⟩
theorem func_slices_ContainsFunc_api_TripOf_api_TripOf : Pg.funcs[F_slices_ContainsFunc_api_TripOf_api_TripOf]? = some Tryz.f80 := Tryz.func80
theorem call_slices_ContainsFunc_api_TripOf_api_TripOf (a : Array Value) (w : World) : (callFunc F_slices_ContainsFunc_api_TripOf_api_TripOf a).run Pg w = .ok (.enter F_slices_ContainsFunc_api_TripOf_api_TripOf a) w := Tryz.call80 a w
abbrev F_world_whole_6 : FuncId := 81
noncomputable abbrev fn_world_whole_6 : Func := Tryz.f81
def fe_world_whole_6 : FE := ⟨Th, 12, 81, [], [], [], none⟩
theorem func_world_whole_6 : Pg.funcs[F_world_whole_6]? = some Tryz.f81 := Tryz.func81
theorem call_world_whole_6 (a : Array Value) (w : World) : (callFunc F_world_whole_6 a).run Pg w = .ok (.enter F_world_whole_6 a) w := Tryz.call81 a w
abbrev F_slices_ContainsFunc_api_HazardOf_api_HazardOf : FuncId := 82
noncomputable abbrev fn_slices_ContainsFunc_api_HazardOf_api_HazardOf : Func := Tryz.f82
def fe_slices_ContainsFunc_api_HazardOf_api_HazardOf : FE := ⟨Th, 9, 82, [], [], [], none⟩
theorem func_slices_ContainsFunc_api_HazardOf_api_HazardOf : Pg.funcs[F_slices_ContainsFunc_api_HazardOf_api_HazardOf]? = some Tryz.f82 := Tryz.func82
theorem call_slices_ContainsFunc_api_HazardOf_api_HazardOf (a : Array Value) (w : World) : (callFunc F_slices_ContainsFunc_api_HazardOf_api_HazardOf a).run Pg w = .ok (.enter F_slices_ContainsFunc_api_HazardOf_api_HazardOf a) w := Tryz.call82 a w
abbrev F_world_whole_7 : FuncId := 83
noncomputable abbrev fn_world_whole_7 : Func := Tryz.f83
def fe_world_whole_7 : FE := ⟨Th, 19, 83, [], [], [], none⟩
theorem func_world_whole_7 : Pg.funcs[F_world_whole_7]? = some Tryz.f83 := Tryz.func83
theorem call_world_whole_7 (a : Array Value) (w : World) : (callFunc F_world_whole_7 a).run Pg w = .ok (.enter F_world_whole_7 a) w := Tryz.call83 a w
abbrev F_sheet_Check : FuncId := 84
noncomputable abbrev fn_sheet_Check : Func := Tryz.f84
def fe_sheet_Check : FE := ⟨Th, 50, 84, [], [], [], none⟩
theorem func_sheet_Check : Pg.funcs[F_sheet_Check]? = some Tryz.f84 := Tryz.func84
theorem call_sheet_Check (a : Array Value) (w : World) : (callFunc F_sheet_Check a).run Pg w = .ok (.enter F_sheet_Check a) w := Tryz.call84 a w
abbrev F_world_numbered : FuncId := 85
noncomputable abbrev fn_world_numbered : Func := Tryz.f85
def fe_world_numbered : FE := ⟨Th, 73, 85, [], [], [], none⟩
theorem func_world_numbered : Pg.funcs[F_world_numbered]? = some Tryz.f85 := Tryz.func85
theorem call_world_numbered (a : Array Value) (w : World) : (callFunc F_world_numbered a).run Pg w = .ok (.enter F_world_numbered a) w := Tryz.call85 a w
abbrev F_world_wrong : FuncId := 86
noncomputable abbrev fn_world_wrong : Func := Tryz.f86
def fe_world_wrong : FE := ⟨Th, 102, 86, [], [], [], none⟩
theorem func_world_wrong : Pg.funcs[F_world_wrong]? = some Tryz.f86 := Tryz.func86
theorem call_world_wrong (a : Array Value) (w : World) : (callFunc F_world_wrong a).run Pg w = .ok (.enter F_world_wrong a) w := Tryz.call86 a w
abbrev F_slices_Clone_string_string : FuncId := 87
noncomputable abbrev fn_slices_Clone_string_string : Func := Tryz.f87
def fe_slices_Clone_string_string : FE := ⟨Th, 8, 87, [], [], [], none⟩
theorem func_slices_Clone_string_string : Pg.funcs[F_slices_Clone_string_string]? = some Tryz.f87 := Tryz.func87
theorem call_slices_Clone_string_string (a : Array Value) (w : World) : (callFunc F_slices_Clone_string_string a).run Pg w = .ok (.enter F_slices_Clone_string_string a) w := Tryz.call87 a w
abbrev F_world_all_int_string : FuncId := 88
noncomputable abbrev fn_world_all_int_string : Func := Tryz.f88
def fe_world_all_int_string : FE := ⟨Th, 21, 88, [], [], [], none⟩
theorem func_world_all_int_string : Pg.funcs[F_world_all_int_string]? = some Tryz.f88 := Tryz.func88
theorem call_world_all_int_string (a : Array Value) (w : World) : (callFunc F_world_all_int_string a).run Pg w = .ok (.enter F_world_all_int_string a) w := Tryz.call88 a w
abbrev F_world_told_1 : FuncId := 89
noncomputable abbrev fn_world_told_1 : Func := Tryz.f89
def fe_world_told_1 : FE := ⟨Th, 9, 89, [], [], [], none⟩
theorem func_world_told_1 : Pg.funcs[F_world_told_1]? = some Tryz.f89 := Tryz.func89
theorem call_world_told_1 (a : Array Value) (w : World) : (callFunc F_world_told_1 a).run Pg w = .ok (.enter F_world_told_1 a) w := Tryz.call89 a w
abbrev F_tick_within_int64 : FuncId := 90
noncomputable abbrev fn_tick_within_int64 : Func := Tryz.f90
def fe_tick_within_int64 : FE := ⟨Th, 13, 90, [], [], [], none⟩
theorem func_tick_within_int64 : Pg.funcs[F_tick_within_int64]? = some Tryz.f90 := Tryz.func90
theorem call_tick_within_int64 (a : Array Value) (w : World) : (callFunc F_tick_within_int64 a).run Pg w = .ok (.enter F_tick_within_int64 a) w := Tryz.call90 a w
abbrev F_tick_Is : FuncId := 91
noncomputable abbrev fn_tick_Is : Func := Tryz.f91
def fe_tick_Is : FE := ⟨Th, 10, 91, [], [], [], none⟩
theorem func_tick_Is : Pg.funcs[F_tick_Is]? = some Tryz.f91 := Tryz.func91
theorem call_tick_Is (a : Array Value) (w : World) : (callFunc F_tick_Is a).run Pg w = .ok (.enter F_tick_Is a) w := Tryz.call91 a w
abbrev F_tick_small : FuncId := 92
noncomputable abbrev fn_tick_small : Func := Tryz.f92
def fe_tick_small : FE := ⟨Th, 11, 92, [], [], [], none⟩
theorem func_tick_small : Pg.funcs[F_tick_small]? = some Tryz.f92 := Tryz.func92
theorem call_tick_small (a : Array Value) (w : World) : (callFunc F_tick_small a).run Pg w = .ok (.enter F_tick_small a) w := Tryz.call92 a w
abbrev F_ref04_word : FuncId := 93
noncomputable abbrev fn_ref04_word : Func := Tryz.f93
def fe_ref04_word : FE := ⟨Th, 29, 93, [], [], [], none⟩
theorem func_ref04_word : Pg.funcs[F_ref04_word]? = some Tryz.f93 := Tryz.func93
theorem call_ref04_word (a : Array Value) (w : World) : (callFunc F_ref04_word a).run Pg w = .ok (.enter F_ref04_word a) w := Tryz.call93 a w
abbrev F_ref04_Reserved : FuncId := 94
noncomputable abbrev fn_ref04_Reserved : Func := Tryz.f94
def fe_ref04_Reserved : FE := ⟨Th, 18, 94, [], [], [], none⟩
theorem func_ref04_Reserved : Pg.funcs[F_ref04_Reserved]? = some Tryz.f94 := Tryz.func94
theorem call_ref04_Reserved (a : Array Value) (w : World) : (callFunc F_ref04_Reserved a).run Pg w = .ok (.enter F_ref04_Reserved a) w := Tryz.call94 a w
abbrev F_ref08_Wins : FuncId := 95
noncomputable abbrev fn_ref08_Wins : Func := Tryz.f95
def fe_ref08_Wins : FE := ⟨Th, 51, 95, [], [], [], none⟩
theorem func_ref08_Wins : Pg.funcs[F_ref08_Wins]? = some Tryz.f95 := Tryz.func95
theorem call_ref08_Wins (a : Array Value) (w : World) : (callFunc F_ref08_Wins a).run Pg w = .ok (.enter F_ref08_Wins a) w := Tryz.call95 a w
abbrev F_slices_IndexFunc_api_PathOf_api_PathOf : FuncId := 96
noncomputable abbrev fn_slices_IndexFunc_api_PathOf_api_PathOf : Func := Tryz.f96
def fe_slices_IndexFunc_api_PathOf_api_PathOf : FE := ⟨Th, 19, 96, [], [], [], none⟩
theorem func_slices_IndexFunc_api_PathOf_api_PathOf : Pg.funcs[F_slices_IndexFunc_api_PathOf_api_PathOf]? = some Tryz.f96 := Tryz.func96
theorem call_slices_IndexFunc_api_PathOf_api_PathOf (a : Array Value) (w : World) : (callFunc F_slices_IndexFunc_api_PathOf_api_PathOf a).run Pg w = .ok (.enter F_slices_IndexFunc_api_PathOf_api_PathOf a) w := Tryz.call96 a w
abbrev F_slices_IndexFunc_api_DoorOf_api_DoorOf : FuncId := 97
noncomputable abbrev fn_slices_IndexFunc_api_DoorOf_api_DoorOf : Func := Tryz.f97
def fe_slices_IndexFunc_api_DoorOf_api_DoorOf : FE := ⟨Th, 19, 97, [], [], [], none⟩
theorem func_slices_IndexFunc_api_DoorOf_api_DoorOf : Pg.funcs[F_slices_IndexFunc_api_DoorOf_api_DoorOf]? = some Tryz.f97 := Tryz.func97
theorem call_slices_IndexFunc_api_DoorOf_api_DoorOf (a : Array Value) (w : World) : (callFunc F_slices_IndexFunc_api_DoorOf_api_DoorOf a).run Pg w = .ok (.enter F_slices_IndexFunc_api_DoorOf_api_DoorOf a) w := Tryz.call97 a w
abbrev F_slices_IndexFunc_api_RouteOf_api_RouteOf : FuncId := 98
noncomputable abbrev fn_slices_IndexFunc_api_RouteOf_api_RouteOf : Func := Tryz.f98
def fe_slices_IndexFunc_api_RouteOf_api_RouteOf : FE := ⟨Th, 19, 98, [], [], [], none⟩
theorem func_slices_IndexFunc_api_RouteOf_api_RouteOf : Pg.funcs[F_slices_IndexFunc_api_RouteOf_api_RouteOf]? = some Tryz.f98 := Tryz.func98
theorem call_slices_IndexFunc_api_RouteOf_api_RouteOf (a : Array Value) (w : World) : (callFunc F_slices_IndexFunc_api_RouteOf_api_RouteOf a).run Pg w = .ok (.enter F_slices_IndexFunc_api_RouteOf_api_RouteOf a) w := Tryz.call98 a w
abbrev F_slices_IndexFunc_int_int : FuncId := 99
noncomputable abbrev fn_slices_IndexFunc_int_int : Func := Tryz.f99
def fe_slices_IndexFunc_int_int : FE := ⟨Th, 19, 99, [], [], [], none⟩
theorem func_slices_IndexFunc_int_int : Pg.funcs[F_slices_IndexFunc_int_int]? = some Tryz.f99 := Tryz.func99
theorem call_slices_IndexFunc_int_int (a : Array Value) (w : World) : (callFunc F_slices_IndexFunc_int_int a).run Pg w = .ok (.enter F_slices_IndexFunc_int_int a) w := Tryz.call99 a w
abbrev F_slices_IndexFunc_api_TripOf_api_TripOf : FuncId := 100
noncomputable abbrev fn_slices_IndexFunc_api_TripOf_api_TripOf : Func := Tryz.f100
def fe_slices_IndexFunc_api_TripOf_api_TripOf : FE := ⟨Th, 19, 100, [], [], [], none⟩
theorem func_slices_IndexFunc_api_TripOf_api_TripOf : Pg.funcs[F_slices_IndexFunc_api_TripOf_api_TripOf]? = some Tryz.f100 := Tryz.func100
theorem call_slices_IndexFunc_api_TripOf_api_TripOf (a : Array Value) (w : World) : (callFunc F_slices_IndexFunc_api_TripOf_api_TripOf a).run Pg w = .ok (.enter F_slices_IndexFunc_api_TripOf_api_TripOf a) w := Tryz.call100 a w
abbrev F_slices_IndexFunc_api_HazardOf_api_HazardOf : FuncId := 101
noncomputable abbrev fn_slices_IndexFunc_api_HazardOf_api_HazardOf : Func := Tryz.f101
def fe_slices_IndexFunc_api_HazardOf_api_HazardOf : FE := ⟨Th, 19, 101, [], [], [], none⟩
theorem func_slices_IndexFunc_api_HazardOf_api_HazardOf : Pg.funcs[F_slices_IndexFunc_api_HazardOf_api_HazardOf]? = some Tryz.f101 := Tryz.func101
theorem call_slices_IndexFunc_api_HazardOf_api_HazardOf (a : Array Value) (w : World) : (callFunc F_slices_IndexFunc_api_HazardOf_api_HazardOf a).run Pg w = .ok (.enter F_slices_IndexFunc_api_HazardOf_api_HazardOf a) w := Tryz.call101 a w
abbrev F_slices_ContainsFunc_string_string : FuncId := 102
noncomputable abbrev fn_slices_ContainsFunc_string_string : Func := Tryz.f102
def fe_slices_ContainsFunc_string_string : FE := ⟨Th, 9, 102, [], [], [], none⟩
theorem func_slices_ContainsFunc_string_string : Pg.funcs[F_slices_ContainsFunc_string_string]? = some Tryz.f102 := Tryz.func102
theorem call_slices_ContainsFunc_string_string (a : Array Value) (w : World) : (callFunc F_slices_ContainsFunc_string_string a).run Pg w = .ok (.enter F_slices_ContainsFunc_string_string a) w := Tryz.call102 a w
abbrev F_sheet_names : FuncId := 103
noncomputable abbrev fn_sheet_names : Func := Tryz.f103
def fe_sheet_names : FE := ⟨Th, 98, 103, [], [], [], none⟩
theorem func_sheet_names : Pg.funcs[F_sheet_names]? = some Tryz.f103 := Tryz.func103
theorem call_sheet_names (a : Array Value) (w : World) : (callFunc F_sheet_names a).run Pg w = .ok (.enter F_sheet_names a) w := Tryz.call103 a w
abbrev F_sheet_Check_1 : FuncId := 104
noncomputable abbrev fn_sheet_Check_1 : Func := Tryz.f104
def fe_sheet_Check_1 : FE := ⟨Th, 6, 104, [], [], [], none⟩
theorem func_sheet_Check_1 : Pg.funcs[F_sheet_Check_1]? = some Tryz.f104 := Tryz.func104
theorem call_sheet_Check_1 (a : Array Value) (w : World) : (callFunc F_sheet_Check_1 a).run Pg w = .ok (.enter F_sheet_Check_1 a) w := Tryz.call104 a w
abbrev F_lex_Name : FuncId := 105
noncomputable abbrev fn_lex_Name : Func := Tryz.f105
def fe_lex_Name : FE := ⟨Th, 25, 105, [], [], [], none⟩
theorem func_lex_Name : Pg.funcs[F_lex_Name]? = some Tryz.f105 := Tryz.func105
theorem call_lex_Name (a : Array Value) (w : World) : (callFunc F_lex_Name a).run Pg w = .ok (.enter F_lex_Name a) w := Tryz.call105 a w
abbrev F_slices_ContainsFunc_int64_int64 : FuncId := 106
noncomputable abbrev fn_slices_ContainsFunc_int64_int64 : Func := Tryz.f106
def fe_slices_ContainsFunc_int64_int64 : FE := ⟨Th, 9, 106, [], [], [], none⟩
theorem func_slices_ContainsFunc_int64_int64 : Pg.funcs[F_slices_ContainsFunc_int64_int64]? = some Tryz.f106 := Tryz.func106
theorem call_slices_ContainsFunc_int64_int64 (a : Array Value) (w : World) : (callFunc F_slices_ContainsFunc_int64_int64 a).run Pg w = .ok (.enter F_slices_ContainsFunc_int64_int64 a) w := Tryz.call106 a w
abbrev F_sheet_numbers : FuncId := 107
noncomputable abbrev fn_sheet_numbers : Func := Tryz.f107
def fe_sheet_numbers : FE := ⟨Th, 94, 107, [], [], [], none⟩
theorem func_sheet_numbers : Pg.funcs[F_sheet_numbers]? = some Tryz.f107 := Tryz.func107
theorem call_sheet_numbers (a : Array Value) (w : World) : (callFunc F_sheet_numbers a).run Pg w = .ok (.enter F_sheet_numbers a) w := Tryz.call107 a w
abbrev F_sheet_Check_2 : FuncId := 108
noncomputable abbrev fn_sheet_Check_2 : Func := Tryz.f108
def fe_sheet_Check_2 : FE := ⟨Th, 6, 108, [], [], [], none⟩
theorem func_sheet_Check_2 : Pg.funcs[F_sheet_Check_2]? = some Tryz.f108 := Tryz.func108
theorem call_sheet_Check_2 (a : Array Value) (w : World) : (callFunc F_sheet_Check_2 a).run Pg w = .ok (.enter F_sheet_Check_2 a) w := Tryz.call108 a w
abbrev F_slices_ContainsFunc_api_Route_api_Route : FuncId := 109
noncomputable abbrev fn_slices_ContainsFunc_api_Route_api_Route : Func := Tryz.f109
def fe_slices_ContainsFunc_api_Route_api_Route : FE := ⟨Th, 9, 109, [], [], [], none⟩
theorem func_slices_ContainsFunc_api_Route_api_Route : Pg.funcs[F_slices_ContainsFunc_api_Route_api_Route]? = some Tryz.f109 := Tryz.func109
theorem call_slices_ContainsFunc_api_Route_api_Route (a : Array Value) (w : World) : (callFunc F_slices_ContainsFunc_api_Route_api_Route a).run Pg w = .ok (.enter F_slices_ContainsFunc_api_Route_api_Route a) w := Tryz.call109 a w
abbrev F_sheet_Check_3 : FuncId := 110
noncomputable abbrev fn_sheet_Check_3 : Func := Tryz.f110
def fe_sheet_Check_3 : FE := ⟨Th, 29, 110, [], [], [], none⟩
theorem func_sheet_Check_3 : Pg.funcs[F_sheet_Check_3]? = some Tryz.f110 := Tryz.func110
theorem call_sheet_Check_3 (a : Array Value) (w : World) : (callFunc F_sheet_Check_3 a).run Pg w = .ok (.enter F_sheet_Check_3 a) w := Tryz.call110 a w
abbrev F_world_all_api_Path_string : FuncId := 111
noncomputable abbrev fn_world_all_api_Path_string : Func := Tryz.f111
def fe_world_all_api_Path_string : FE := ⟨Th, 21, 111, [], [], [], none⟩
theorem func_world_all_api_Path_string : Pg.funcs[F_world_all_api_Path_string]? = some Tryz.f111 := Tryz.func111
theorem call_world_all_api_Path_string (a : Array Value) (w : World) : (callFunc F_world_all_api_Path_string a).run Pg w = .ok (.enter F_world_all_api_Path_string a) w := Tryz.call111 a w
abbrev F_world_numbered_1 : FuncId := 112
noncomputable abbrev fn_world_numbered_1 : Func := Tryz.f112
def fe_world_numbered_1 : FE := ⟨Th, 5, 112, [], [], [], none⟩
theorem func_world_numbered_1 : Pg.funcs[F_world_numbered_1]? = some Tryz.f112 := Tryz.func112
theorem call_world_numbered_1 (a : Array Value) (w : World) : (callFunc F_world_numbered_1 a).run Pg w = .ok (.enter F_world_numbered_1 a) w := Tryz.call112 a w
abbrev F_world_all_api_Door_string : FuncId := 113
noncomputable abbrev fn_world_all_api_Door_string : Func := Tryz.f113
def fe_world_all_api_Door_string : FE := ⟨Th, 21, 113, [], [], [], none⟩
theorem func_world_all_api_Door_string : Pg.funcs[F_world_all_api_Door_string]? = some Tryz.f113 := Tryz.func113
theorem call_world_all_api_Door_string (a : Array Value) (w : World) : (callFunc F_world_all_api_Door_string a).run Pg w = .ok (.enter F_world_all_api_Door_string a) w := Tryz.call113 a w
abbrev F_world_numbered_2 : FuncId := 114
noncomputable abbrev fn_world_numbered_2 : Func := Tryz.f114
def fe_world_numbered_2 : FE := ⟨Th, 5, 114, [], [], [], none⟩
theorem func_world_numbered_2 : Pg.funcs[F_world_numbered_2]? = some Tryz.f114 := Tryz.func114
theorem call_world_numbered_2 (a : Array Value) (w : World) : (callFunc F_world_numbered_2 a).run Pg w = .ok (.enter F_world_numbered_2 a) w := Tryz.call114 a w
abbrev F_world_all_api_Route_string : FuncId := 115
noncomputable abbrev fn_world_all_api_Route_string : Func := Tryz.f115
def fe_world_all_api_Route_string : FE := ⟨Th, 21, 115, [], [], [], none⟩
theorem func_world_all_api_Route_string : Pg.funcs[F_world_all_api_Route_string]? = some Tryz.f115 := Tryz.func115
theorem call_world_all_api_Route_string (a : Array Value) (w : World) : (callFunc F_world_all_api_Route_string a).run Pg w = .ok (.enter F_world_all_api_Route_string a) w := Tryz.call115 a w
abbrev F_world_numbered_3 : FuncId := 116
noncomputable abbrev fn_world_numbered_3 : Func := Tryz.f116
def fe_world_numbered_3 : FE := ⟨Th, 5, 116, [], [], [], none⟩
theorem func_world_numbered_3 : Pg.funcs[F_world_numbered_3]? = some Tryz.f116 := Tryz.func116
theorem call_world_numbered_3 (a : Array Value) (w : World) : (callFunc F_world_numbered_3 a).run Pg w = .ok (.enter F_world_numbered_3 a) w := Tryz.call116 a w
abbrev F_world_all_api_Trip_string : FuncId := 117
noncomputable abbrev fn_world_all_api_Trip_string : Func := Tryz.f117
def fe_world_all_api_Trip_string : FE := ⟨Th, 21, 117, [], [], [], none⟩
theorem func_world_all_api_Trip_string : Pg.funcs[F_world_all_api_Trip_string]? = some Tryz.f117 := Tryz.func117
theorem call_world_all_api_Trip_string (a : Array Value) (w : World) : (callFunc F_world_all_api_Trip_string a).run Pg w = .ok (.enter F_world_all_api_Trip_string a) w := Tryz.call117 a w
abbrev F_world_numbered_4 : FuncId := 118
noncomputable abbrev fn_world_numbered_4 : Func := Tryz.f118
def fe_world_numbered_4 : FE := ⟨Th, 5, 118, [], [], [], none⟩
theorem func_world_numbered_4 : Pg.funcs[F_world_numbered_4]? = some Tryz.f118 := Tryz.func118
theorem call_world_numbered_4 (a : Array Value) (w : World) : (callFunc F_world_numbered_4 a).run Pg w = .ok (.enter F_world_numbered_4 a) w := Tryz.call118 a w
abbrev F_world_all_api_Hazard_string : FuncId := 119
noncomputable abbrev fn_world_all_api_Hazard_string : Func := Tryz.f119
def fe_world_all_api_Hazard_string : FE := ⟨Th, 21, 119, [], [], [], none⟩
theorem func_world_all_api_Hazard_string : Pg.funcs[F_world_all_api_Hazard_string]? = some Tryz.f119 := Tryz.func119
theorem call_world_all_api_Hazard_string (a : Array Value) (w : World) : (callFunc F_world_all_api_Hazard_string a).run Pg w = .ok (.enter F_world_all_api_Hazard_string a) w := Tryz.call119 a w
abbrev F_world_numbered_5 : FuncId := 120
noncomputable abbrev fn_world_numbered_5 : Func := Tryz.f120
def fe_world_numbered_5 : FE := ⟨Th, 5, 120, [], [], [], none⟩
theorem func_world_numbered_5 : Pg.funcs[F_world_numbered_5]? = some Tryz.f120 := Tryz.func120
theorem call_world_numbered_5 (a : Array Value) (w : World) : (callFunc F_world_numbered_5 a).run Pg w = .ok (.enter F_world_numbered_5 a) w := Tryz.call120 a w
abbrev F_world_numbered_6 : FuncId := 121
noncomputable abbrev fn_world_numbered_6 : Func := Tryz.f121
def fe_world_numbered_6 : FE := ⟨Th, 8, 121, [], [], [], none⟩
theorem func_world_numbered_6 : Pg.funcs[F_world_numbered_6]? = some Tryz.f121 := Tryz.func121
theorem call_world_numbered_6 (a : Array Value) (w : World) : (callFunc F_world_numbered_6 a).run Pg w = .ok (.enter F_world_numbered_6 a) w := Tryz.call121 a w
abbrev F_world_place : FuncId := 122
noncomputable abbrev fn_world_place : Func := Tryz.f122
def fe_world_place : FE := ⟨Th, 8, 122, [], [], [], none⟩
theorem func_world_place : Pg.funcs[F_world_place]? = some Tryz.f122 := Tryz.func122
theorem call_world_place (a : Array Value) (w : World) : (callFunc F_world_place a).run Pg w = .ok (.enter F_world_place a) w := Tryz.call122 a w
abbrev F_world_all_api_Path_api_PathOf : FuncId := 123
noncomputable abbrev fn_world_all_api_Path_api_PathOf : Func := Tryz.f123
def fe_world_all_api_Path_api_PathOf : FE := ⟨Th, 21, 123, [], [], [], none⟩
theorem func_world_all_api_Path_api_PathOf : Pg.funcs[F_world_all_api_Path_api_PathOf]? = some Tryz.f123 := Tryz.func123
theorem call_world_all_api_Path_api_PathOf (a : Array Value) (w : World) : (callFunc F_world_all_api_Path_api_PathOf a).run Pg w = .ok (.enter F_world_all_api_Path_api_PathOf a) w := Tryz.call123 a w
abbrev F_world_numbered_7 : FuncId := 124
noncomputable abbrev fn_world_numbered_7 : Func := Tryz.f124
def fe_world_numbered_7 : FE := ⟨Th, 15, 124, [], [], [], none⟩
theorem func_world_numbered_7 : Pg.funcs[F_world_numbered_7]? = some Tryz.f124 := Tryz.func124
theorem call_world_numbered_7 (a : Array Value) (w : World) : (callFunc F_world_numbered_7 a).run Pg w = .ok (.enter F_world_numbered_7 a) w := Tryz.call124 a w
abbrev F_world_all_api_Door_api_DoorOf : FuncId := 125
noncomputable abbrev fn_world_all_api_Door_api_DoorOf : Func := Tryz.f125
def fe_world_all_api_Door_api_DoorOf : FE := ⟨Th, 21, 125, [], [], [], none⟩
theorem func_world_all_api_Door_api_DoorOf : Pg.funcs[F_world_all_api_Door_api_DoorOf]? = some Tryz.f125 := Tryz.func125
theorem call_world_all_api_Door_api_DoorOf (a : Array Value) (w : World) : (callFunc F_world_all_api_Door_api_DoorOf a).run Pg w = .ok (.enter F_world_all_api_Door_api_DoorOf a) w := Tryz.call125 a w
abbrev F_world_numbered_8 : FuncId := 126
noncomputable abbrev fn_world_numbered_8 : Func := Tryz.f126
def fe_world_numbered_8 : FE := ⟨Th, 17, 126, [], [], [], none⟩
theorem func_world_numbered_8 : Pg.funcs[F_world_numbered_8]? = some Tryz.f126 := Tryz.func126
theorem call_world_numbered_8 (a : Array Value) (w : World) : (callFunc F_world_numbered_8 a).run Pg w = .ok (.enter F_world_numbered_8 a) w := Tryz.call126 a w
abbrev F_world_all_api_Route_api_RouteOf : FuncId := 127
noncomputable abbrev fn_world_all_api_Route_api_RouteOf : Func := Tryz.f127
def fe_world_all_api_Route_api_RouteOf : FE := ⟨Th, 21, 127, [], [], [], none⟩
theorem func_world_all_api_Route_api_RouteOf : Pg.funcs[F_world_all_api_Route_api_RouteOf]? = some Tryz.f127 := Tryz.func127
theorem call_world_all_api_Route_api_RouteOf (a : Array Value) (w : World) : (callFunc F_world_all_api_Route_api_RouteOf a).run Pg w = .ok (.enter F_world_all_api_Route_api_RouteOf a) w := Tryz.call127 a w
abbrev F_world_numbered_9 : FuncId := 128
noncomputable abbrev fn_world_numbered_9 : Func := Tryz.f128
def fe_world_numbered_9 : FE := ⟨Th, 15, 128, [], [], [], none⟩
theorem func_world_numbered_9 : Pg.funcs[F_world_numbered_9]? = some Tryz.f128 := Tryz.func128
theorem call_world_numbered_9 (a : Array Value) (w : World) : (callFunc F_world_numbered_9 a).run Pg w = .ok (.enter F_world_numbered_9 a) w := Tryz.call128 a w
abbrev F_world_all_string_int : FuncId := 129
noncomputable abbrev fn_world_all_string_int : Func := Tryz.f129
def fe_world_all_string_int : FE := ⟨Th, 21, 129, [], [], [], none⟩
theorem func_world_all_string_int : Pg.funcs[F_world_all_string_int]? = some Tryz.f129 := Tryz.func129
theorem call_world_all_string_int (a : Array Value) (w : World) : (callFunc F_world_all_string_int a).run Pg w = .ok (.enter F_world_all_string_int a) w := Tryz.call129 a w
abbrev F_world_all_api_Trip_api_TripOf : FuncId := 130
noncomputable abbrev fn_world_all_api_Trip_api_TripOf : Func := Tryz.f130
def fe_world_all_api_Trip_api_TripOf : FE := ⟨Th, 21, 130, [], [], [], none⟩
theorem func_world_all_api_Trip_api_TripOf : Pg.funcs[F_world_all_api_Trip_api_TripOf]? = some Tryz.f130 := Tryz.func130
theorem call_world_all_api_Trip_api_TripOf (a : Array Value) (w : World) : (callFunc F_world_all_api_Trip_api_TripOf a).run Pg w = .ok (.enter F_world_all_api_Trip_api_TripOf a) w := Tryz.call130 a w
abbrev F_world_numbered_10 : FuncId := 131
noncomputable abbrev fn_world_numbered_10 : Func := Tryz.f131
def fe_world_numbered_10 : FE := ⟨Th, 18, 131, [], [], [], none⟩
theorem func_world_numbered_10 : Pg.funcs[F_world_numbered_10]? = some Tryz.f131 := Tryz.func131
theorem call_world_numbered_10 (a : Array Value) (w : World) : (callFunc F_world_numbered_10 a).run Pg w = .ok (.enter F_world_numbered_10 a) w := Tryz.call131 a w
abbrev F_world_all_api_Hazard_api_HazardOf : FuncId := 132
noncomputable abbrev fn_world_all_api_Hazard_api_HazardOf : Func := Tryz.f132
def fe_world_all_api_Hazard_api_HazardOf : FE := ⟨Th, 21, 132, [], [], [], none⟩
theorem func_world_all_api_Hazard_api_HazardOf : Pg.funcs[F_world_all_api_Hazard_api_HazardOf]? = some Tryz.f132 := Tryz.func132
theorem call_world_all_api_Hazard_api_HazardOf (a : Array Value) (w : World) : (callFunc F_world_all_api_Hazard_api_HazardOf a).run Pg w = .ok (.enter F_world_all_api_Hazard_api_HazardOf a) w := Tryz.call132 a w
abbrev F_world_numbered_11 : FuncId := 133
noncomputable abbrev fn_world_numbered_11 : Func := Tryz.f133
def fe_world_numbered_11 : FE := ⟨Th, 26, 133, [], [], [], none⟩
theorem func_world_numbered_11 : Pg.funcs[F_world_numbered_11]? = some Tryz.f133 := Tryz.func133
theorem call_world_numbered_11 (a : Array Value) (w : World) : (callFunc F_world_numbered_11 a).run Pg w = .ok (.enter F_world_numbered_11 a) w := Tryz.call133 a w
abbrev F_intern_New : FuncId := 134
noncomputable abbrev fn_intern_New : Func := Tryz.f134
def fe_intern_New : FE := ⟨Th, 30, 134, [], [], [], none⟩
theorem func_intern_New : Pg.funcs[F_intern_New]? = some Tryz.f134 := Tryz.func134
theorem call_intern_New (a : Array Value) (w : World) : (callFunc F_intern_New a).run Pg w = .ok (.enter F_intern_New a) w := Tryz.call134 a w
abbrev F_world_kinds : FuncId := 135
noncomputable abbrev fn_world_kinds : Func := Tryz.f135
def fe_world_kinds : FE := ⟨Th, 23, 135, [], [], [], none⟩
theorem func_world_kinds : Pg.funcs[F_world_kinds]? = some Tryz.f135 := Tryz.func135
theorem call_world_kinds (a : Array Value) (w : World) : (callFunc F_world_kinds a).run Pg w = .ok (.enter F_world_kinds a) w := Tryz.call135 a w
abbrev F_intern_Table_Add : FuncId := 136
noncomputable abbrev fn_intern_Table_Add : Func := Tryz.f136
def fe_intern_Table_Add : FE := ⟨Th, 67, 136, [], [], [], none⟩
theorem func_intern_Table_Add : Pg.funcs[F_intern_Table_Add]? = some Tryz.f136 := Tryz.func136
theorem call_intern_Table_Add (a : Array Value) (w : World) : (callFunc F_intern_Table_Add a).run Pg w = .ok (.enter F_intern_Table_Add a) w := Tryz.call136 a w
abbrev F_world_checker_fine : FuncId := 137
noncomputable abbrev fn_world_checker_fine : Func := Tryz.f137
def fe_world_checker_fine : FE := ⟨Th, 5, 137, [], [], [], none⟩
theorem func_world_checker_fine : Pg.funcs[F_world_checker_fine]? = some Tryz.f137 := Tryz.func137
theorem call_world_checker_fine (a : Array Value) (w : World) : (callFunc F_world_checker_fine a).run Pg w = .ok (.enter F_world_checker_fine a) w := Tryz.call137 a w
abbrev F_world_checker_path : FuncId := 138
noncomputable abbrev fn_world_checker_path : Func := Tryz.f138
def fe_world_checker_path : FE := ⟨Th, 23, 138, [], [], [], none⟩
theorem func_world_checker_path : Pg.funcs[F_world_checker_path]? = some Tryz.f138 := Tryz.func138
theorem call_world_checker_path (a : Array Value) (w : World) : (callFunc F_world_checker_path a).run Pg w = .ok (.enter F_world_checker_path a) w := Tryz.call138 a w
abbrev F_world_checker_door : FuncId := 139
noncomputable abbrev fn_world_checker_door : Func := Tryz.f139
def fe_world_checker_door : FE := ⟨Th, 31, 139, [], [], [], none⟩
theorem func_world_checker_door : Pg.funcs[F_world_checker_door]? = some Tryz.f139 := Tryz.func139
theorem call_world_checker_door (a : Array Value) (w : World) : (callFunc F_world_checker_door a).run Pg w = .ok (.enter F_world_checker_door a) w := Tryz.call139 a w
abbrev F_world_checker_route : FuncId := 140
noncomputable abbrev fn_world_checker_route : Func := Tryz.f140
def fe_world_checker_route : FE := ⟨Th, 46, 140, [], [], [], none⟩
theorem func_world_checker_route : Pg.funcs[F_world_checker_route]? = some Tryz.f140 := Tryz.func140
theorem call_world_checker_route (a : Array Value) (w : World) : (callFunc F_world_checker_route a).run Pg w = .ok (.enter F_world_checker_route a) w := Tryz.call140 a w
abbrev F_world_checker_trip : FuncId := 141
noncomputable abbrev fn_world_checker_trip : Func := Tryz.f141
def fe_world_checker_trip : FE := ⟨Th, 26, 141, [], [], [], none⟩
theorem func_world_checker_trip : Pg.funcs[F_world_checker_trip]? = some Tryz.f141 := Tryz.func141
theorem call_world_checker_trip (a : Array Value) (w : World) : (callFunc F_world_checker_trip a).run Pg w = .ok (.enter F_world_checker_trip a) w := Tryz.call141 a w
abbrev F_world_checker_hazard : FuncId := 142
noncomputable abbrev fn_world_checker_hazard : Func := Tryz.f142
def fe_world_checker_hazard : FE := ⟨Th, 23, 142, [], [], [], none⟩
theorem func_world_checker_hazard : Pg.funcs[F_world_checker_hazard]? = some Tryz.f142 := Tryz.func142
theorem call_world_checker_hazard (a : Array Value) (w : World) : (callFunc F_world_checker_hazard a).run Pg w = .ok (.enter F_world_checker_hazard a) w := Tryz.call142 a w
abbrev F_ref04_letter : FuncId := 143
noncomputable abbrev fn_ref04_letter : Func := Tryz.f143
def fe_ref04_letter : FE := ⟨Th, 9, 143, [], [], [], none⟩
theorem func_ref04_letter : Pg.funcs[F_ref04_letter]? = some Tryz.f143 := Tryz.func143
theorem call_ref04_letter (a : Array Value) (w : World) : (callFunc F_ref04_letter a).run Pg w = .ok (.enter F_ref04_letter a) w := Tryz.call143 a w
abbrev F_ref04_more : FuncId := 144
noncomputable abbrev fn_ref04_more : Func := Tryz.f144
def fe_ref04_more : FE := ⟨Th, 17, 144, [], [], [], none⟩
theorem func_ref04_more : Pg.funcs[F_ref04_more]? = some Tryz.f144 := Tryz.func144
theorem call_ref04_more (a : Array Value) (w : World) : (callFunc F_ref04_more a).run Pg w = .ok (.enter F_ref04_more a) w := Tryz.call144 a w
abbrev F_ref08_Check : FuncId := 145
noncomputable abbrev fn_ref08_Check : Func := Tryz.f145
def fe_ref08_Check : FE := ⟨Th, 34, 145, [], [], [], none⟩
theorem func_ref08_Check : Pg.funcs[F_ref08_Check]? = some Tryz.f145 := Tryz.func145
theorem call_ref08_Check (a : Array Value) (w : World) : (callFunc F_ref08_Check a).run Pg w = .ok (.enter F_ref08_Check a) w := Tryz.call145 a w
abbrev F_ref08_joined : FuncId := 146
noncomputable abbrev fn_ref08_joined : Func := Tryz.f146
def fe_ref08_joined : FE := ⟨Th, 55, 146, [], [], [], none⟩
theorem func_ref08_joined : Pg.funcs[F_ref08_joined]? = some Tryz.f146 := Tryz.func146
theorem call_ref08_joined (a : Array Value) (w : World) : (callFunc F_ref08_joined a).run Pg w = .ok (.enter F_ref08_joined a) w := Tryz.call146 a w
abbrev F_slices_IndexFunc_string_string : FuncId := 147
noncomputable abbrev fn_slices_IndexFunc_string_string : Func := Tryz.f147
def fe_slices_IndexFunc_string_string : FE := ⟨Th, 19, 147, [], [], [], none⟩
theorem func_slices_IndexFunc_string_string : Pg.funcs[F_slices_IndexFunc_string_string]? = some Tryz.f147 := Tryz.func147
theorem call_slices_IndexFunc_string_string (a : Array Value) (w : World) : (callFunc F_slices_IndexFunc_string_string a).run Pg w = .ok (.enter F_slices_IndexFunc_string_string a) w := Tryz.call147 a w
abbrev F_lex_class : FuncId := 148
noncomputable abbrev fn_lex_class : Func := Tryz.f148
def fe_lex_class : FE := ⟨Th, 24, 148, [], [], [], none⟩
theorem func_lex_class : Pg.funcs[F_lex_class]? = some Tryz.f148 := Tryz.func148
theorem call_lex_class (a : Array Value) (w : World) : (callFunc F_lex_class a).run Pg w = .ok (.enter F_lex_class a) w := Tryz.call148 a w
abbrev F_lex_Reserved : FuncId := 149
noncomputable abbrev fn_lex_Reserved : Func := Tryz.f149
def fe_lex_Reserved : FE := ⟨Th, 6, 149, [], [], [], none⟩
theorem func_lex_Reserved : Pg.funcs[F_lex_Reserved]? = some Tryz.f149 := Tryz.func149
theorem call_lex_Reserved (a : Array Value) (w : World) : (callFunc F_lex_Reserved a).run Pg w = .ok (.enter F_lex_Reserved a) w := Tryz.call149 a w
abbrev F_lex_run : FuncId := 150
noncomputable abbrev fn_lex_run : Func := Tryz.f150
def fe_lex_run : FE := ⟨Th, 21, 150, [], [], [], none⟩
theorem func_lex_run : Pg.funcs[F_lex_run]? = some Tryz.f150 := Tryz.func150
theorem call_lex_run (a : Array Value) (w : World) : (callFunc F_lex_run a).run Pg w = .ok (.enter F_lex_run a) w := Tryz.call150 a w
abbrev F_lex_Name_1 : FuncId := 151
noncomputable abbrev fn_lex_Name_1 : Func := Tryz.f151
def fe_lex_Name_1 : FE := ⟨Th, 5, 151, [], [], [], none⟩
theorem func_lex_Name_1 : Pg.funcs[F_lex_Name_1]? = some Tryz.f151 := Tryz.func151
theorem call_lex_Name_1 (a : Array Value) (w : World) : (callFunc F_lex_Name_1 a).run Pg w = .ok (.enter F_lex_Name_1 a) w := Tryz.call151 a w
abbrev F_slices_IndexFunc_int64_int64 : FuncId := 152
noncomputable abbrev fn_slices_IndexFunc_int64_int64 : Func := Tryz.f152
def fe_slices_IndexFunc_int64_int64 : FE := ⟨Th, 19, 152, [], [], [], none⟩
theorem func_slices_IndexFunc_int64_int64 : Pg.funcs[F_slices_IndexFunc_int64_int64]? = some Tryz.f152 := Tryz.func152
theorem call_slices_IndexFunc_int64_int64 (a : Array Value) (w : World) : (callFunc F_slices_IndexFunc_int64_int64 a).run Pg w = .ok (.enter F_slices_IndexFunc_int64_int64 a) w := Tryz.call152 a w
abbrev F_sheet_numbers_1 : FuncId := 153
noncomputable abbrev fn_sheet_numbers_1 : Func := Tryz.f153
def fe_sheet_numbers_1 : FE := ⟨Th, 12, 153, [], [], [], none⟩
theorem func_sheet_numbers_1 : Pg.funcs[F_sheet_numbers_1]? = some Tryz.f153 := Tryz.func153
theorem call_sheet_numbers_1 (a : Array Value) (w : World) : (callFunc F_sheet_numbers_1 a).run Pg w = .ok (.enter F_sheet_numbers_1 a) w := Tryz.call153 a w
abbrev F_slices_IndexFunc_api_Route_api_Route : FuncId := 154
noncomputable abbrev fn_slices_IndexFunc_api_Route_api_Route : Func := Tryz.f154
def fe_slices_IndexFunc_api_Route_api_Route : FE := ⟨Th, 19, 154, [], [], [], none⟩
theorem func_slices_IndexFunc_api_Route_api_Route : Pg.funcs[F_slices_IndexFunc_api_Route_api_Route]? = some Tryz.f154 := Tryz.func154
theorem call_slices_IndexFunc_api_Route_api_Route (a : Array Value) (w : World) : (callFunc F_slices_IndexFunc_api_Route_api_Route a).run Pg w = .ok (.enter F_slices_IndexFunc_api_Route_api_Route a) w := Tryz.call154 a w
abbrev F_slices_Index_string_string : FuncId := 155
noncomputable abbrev fn_slices_Index_string_string : Func := Tryz.f155
def fe_slices_Index_string_string : FE := ⟨Th, 19, 155, [], [], [], none⟩
theorem func_slices_Index_string_string : Pg.funcs[F_slices_Index_string_string]? = some Tryz.f155 := Tryz.func155
theorem call_slices_Index_string_string (a : Array Value) (w : World) : (callFunc F_slices_Index_string_string a).run Pg w = .ok (.enter F_slices_Index_string_string a) w := Tryz.call155 a w
abbrev F_world_way : FuncId := 156
noncomputable abbrev fn_world_way : Func := Tryz.f156
def fe_world_way : FE := ⟨Th, 20, 156, [], [], [], none⟩
theorem func_world_way : Pg.funcs[F_world_way]? = some Tryz.f156 := Tryz.func156
theorem call_world_way (a : Array Value) (w : World) : (callFunc F_world_way a).run Pg w = .ok (.enter F_world_way a) w := Tryz.call156 a w
abbrev F_world_checker_times : FuncId := 157
noncomputable abbrev fn_world_checker_times : Func := Tryz.f157
def fe_world_checker_times : FE := ⟨Th, 20, 157, [], [], [], none⟩
theorem func_world_checker_times : Pg.funcs[F_world_checker_times]? = some Tryz.f157 := Tryz.func157
theorem call_world_checker_times (a : Array Value) (w : World) : (callFunc F_world_checker_times a).run Pg w = .ok (.enter F_world_checker_times a) w := Tryz.call157 a w
abbrev F_slices_Contains_int_int : FuncId := 158
noncomputable abbrev fn_slices_Contains_int_int : Func := Tryz.f158
def fe_slices_Contains_int_int : FE := ⟨Th, 9, 158, [], [], [], none⟩
theorem func_slices_Contains_int_int : Pg.funcs[F_slices_Contains_int_int]? = some Tryz.f158 := Tryz.func158
theorem call_slices_Contains_int_int (a : Array Value) (w : World) : (callFunc F_slices_Contains_int_int a).run Pg w = .ok (.enter F_slices_Contains_int_int a) w := Tryz.call158 a w
abbrev F_ref04_digit : FuncId := 159
noncomputable abbrev fn_ref04_digit : Func := Tryz.f159
def fe_ref04_digit : FE := ⟨Th, 9, 159, [], [], [], none⟩
theorem func_ref04_digit : Pg.funcs[F_ref04_digit]? = some Tryz.f159 := Tryz.func159
theorem call_ref04_digit (a : Array Value) (w : World) : (callFunc F_ref04_digit a).run Pg w = .ok (.enter F_ref04_digit a) w := Tryz.call159 a w
abbrev F_slices_Contains_string_string : FuncId := 160
noncomputable abbrev fn_slices_Contains_string_string : Func := Tryz.f160
def fe_slices_Contains_string_string : FE := ⟨Th, 9, 160, [], [], [], none⟩
theorem func_slices_Contains_string_string : Pg.funcs[F_slices_Contains_string_string]? = some Tryz.f160 := Tryz.func160
theorem call_slices_Contains_string_string (a : Array Value) (w : World) : (callFunc F_slices_Contains_string_string a).run Pg w = .ok (.enter F_slices_Contains_string_string a) w := Tryz.call160 a w
abbrev F_strings_Fields : FuncId := 161
noncomputable abbrev fn_strings_Fields : Func := Tryz.f161
abbrev gl_strings_Fields : Nat := 0
def fe_strings_Fields : FE := ⟨Th, 106, 161, [], [], [], none⟩
theorem func_strings_Fields : Pg.funcs[F_strings_Fields]? = some Tryz.f161 := Tryz.func161
theorem call_strings_Fields (a : Array Value) (w : World) : (callFunc F_strings_Fields a).run Pg w = .ok (.enter F_strings_Fields a) w := Tryz.call161 a w
abbrev F_window_Wins : FuncId := 162
noncomputable abbrev fn_window_Wins : Func := Tryz.f162
def fe_window_Wins : FE := ⟨Th, 31, 162, [], [], [], none⟩
theorem func_window_Wins : Pg.funcs[F_window_Wins]? = some Tryz.f162 := Tryz.func162
theorem call_window_Wins (a : Array Value) (w : World) : (callFunc F_window_Wins a).run Pg w = .ok (.enter F_window_Wins a) w := Tryz.call162 a w
abbrev F_slices_Index_int_int : FuncId := 163
noncomputable abbrev fn_slices_Index_int_int : Func := Tryz.f163
def fe_slices_Index_int_int : FE := ⟨Th, 19, 163, [], [], [], none⟩
theorem func_slices_Index_int_int : Pg.funcs[F_slices_Index_int_int]? = some Tryz.f163 := Tryz.func163
theorem call_slices_Index_int_int (a : Array Value) (w : World) : (callFunc F_slices_Index_int_int a).run Pg w = .ok (.enter F_slices_Index_int_int a) w := Tryz.call163 a w
abbrev F_strings_FieldsFunc : FuncId := 164
noncomputable abbrev fn_strings_FieldsFunc : Func := Tryz.f164
def fe_strings_FieldsFunc : FE := ⟨Th, 65, 164, [], [], [], none⟩
theorem func_strings_FieldsFunc : Pg.funcs[F_strings_FieldsFunc]? = some Tryz.f164 := Tryz.func164
theorem call_strings_FieldsFunc (a : Array Value) (w : World) : (callFunc F_strings_FieldsFunc a).run Pg w = .ok (.enter F_strings_FieldsFunc a) w := Tryz.call164 a w
abbrev F_unicode_IsSpace : FuncId := 165
noncomputable abbrev fn_unicode_IsSpace : Func := Tryz.f165
abbrev gl_unicode_IsSpace : Nat := 1
def fe_unicode_IsSpace : FE := ⟨Th, 19, 165, [], [], [], none⟩
theorem func_unicode_IsSpace : Pg.funcs[F_unicode_IsSpace]? = some Tryz.f165 := Tryz.func165
theorem call_unicode_IsSpace (a : Array Value) (w : World) : (callFunc F_unicode_IsSpace a).run Pg w = .ok (.enter F_unicode_IsSpace a) w := Tryz.call165 a w
abbrev F_window_Check : FuncId := 166
noncomputable abbrev fn_window_Check : Func := Tryz.f166
def fe_window_Check : FE := ⟨Th, 34, 166, [], [], [], none⟩
theorem func_window_Check : Pg.funcs[F_window_Check]? = some Tryz.f166 := Tryz.func166
theorem call_window_Check (a : Array Value) (w : World) : (callFunc F_window_Check a).run Pg w = .ok (.enter F_window_Check a) w := Tryz.call166 a w
abbrev F_window_joined : FuncId := 167
noncomputable abbrev fn_window_joined : Func := Tryz.f167
def fe_window_joined : FE := ⟨Th, 39, 167, [], [], [], none⟩
noncomputable def ld_window_joined (k : Nat) : LD := ldOf Tryz.f167 39 k
theorem func_window_joined : Pg.funcs[F_window_joined]? = some Tryz.f167 := Tryz.func167
theorem call_window_joined (a : Array Value) (w : World) : (callFunc F_window_joined a).run Pg w = .ok (.enter F_window_joined a) w := Tryz.call167 a w
abbrev F_window_each : FuncId := 168
noncomputable abbrev fn_window_each : Func := Tryz.f168
def fe_window_each : FE := ⟨Th, 6, 168, [], [], [], none⟩
theorem func_window_each : Pg.funcs[F_window_each]? = some Tryz.f168 := Tryz.func168
theorem call_window_each (a : Array Value) (w : World) : (callFunc F_window_each a).run Pg w = .ok (.enter F_window_each a) w := Tryz.call168 a w
abbrev F_unicode_isExcludingLatin : FuncId := 169
noncomputable abbrev fn_unicode_isExcludingLatin : Func := Tryz.f169
def fe_unicode_isExcludingLatin : FE := ⟨Th, 59, 169, [], [], [], none⟩
theorem func_unicode_isExcludingLatin : Pg.funcs[F_unicode_isExcludingLatin]? = some Tryz.f169 := Tryz.func169
theorem call_unicode_isExcludingLatin (a : Array Value) (w : World) : (callFunc F_unicode_isExcludingLatin a).run Pg w = .ok (.enter F_unicode_isExcludingLatin a) w := Tryz.call169 a w
abbrev F_window_each_1 : FuncId := 170
noncomputable abbrev fn_window_each_1 : Func := Tryz.f170
def fe_window_each_1 : FE := ⟨Th, 27, 170, [], [], [], none⟩
theorem func_window_each_1 : Pg.funcs[F_window_each_1]? = some Tryz.f170 := Tryz.func170
theorem call_window_each_1 (a : Array Value) (w : World) : (callFunc F_window_each_1 a).run Pg w = .ok (.enter F_window_each_1 a) w := Tryz.call170 a w
abbrev F_unicode_is16 : FuncId := 171
noncomputable abbrev fn_unicode_is16 : Func := Tryz.f171
def fe_unicode_is16 : FE := ⟨Th, 114, 171, [], [], [], none⟩
theorem func_unicode_is16 : Pg.funcs[F_unicode_is16]? = some Tryz.f171 := Tryz.func171
theorem call_unicode_is16 (a : Array Value) (w : World) : (callFunc F_unicode_is16 a).run Pg w = .ok (.enter F_unicode_is16 a) w := Tryz.call171 a w
abbrev F_unicode_is32 : FuncId := 172
noncomputable abbrev fn_unicode_is32 : Func := Tryz.f172
def fe_unicode_is32 : FE := ⟨Th, 99, 172, [], [], [], none⟩
theorem func_unicode_is32 : Pg.funcs[F_unicode_is32]? = some Tryz.f172 := Tryz.func172
theorem call_unicode_is32 (a : Array Value) (w : World) : (callFunc F_unicode_is32 a).run Pg w = .ok (.enter F_unicode_is32 a) w := Tryz.call172 a w
abbrev F_gosem_cut_vars : FuncId := 197
noncomputable abbrev fn_gosem_cut_vars : Func := Tryz.f197
abbrev gl_gosem_cut_vars : Nat := 2
def fe_gosem_cut_vars : FE := ⟨Th, 12, 197, [], [], [], none⟩
theorem func_gosem_cut_vars : Pg.funcs[F_gosem_cut_vars]? = some Tryz.f197 := Tryz.func197
theorem call_gosem_cut_vars (a : Array Value) (w : World) : (callFunc F_gosem_cut_vars a).run Pg w = .ok (.enter F_gosem_cut_vars a) w := Tryz.call197 a w
end Go.Proofs.YtmfolelgdpkkoaaGreatDoor
/- The plain data of the document, how each lies in cells, and when they are the same. -/
set_option linter.unusedVariables false
set_option linter.unusedSimpArgs false
namespace Go.Ab
structure Tms where
  fr : Int
  ev : Int
  ln : Int
  deriving DecidableEq
structure Wn where
  fr : Int
  to : Int
  deriving DecidableEq
structure Pth where
  name : Str
  a : Str
  b : Str
  ln : Int
  deriving DecidableEq
structure Dor where
  name : Str
  a : Str
  b : Str
  ln : Int
  tm : Tms
  deriving DecidableEq
structure Rte where
  name : Str
  stops : List Str
  rides : List Int
  stays : List Int
  deriving DecidableEq
structure Trp where
  name : Str
  route : Str
  fr : Int
  ev : Int
  un : Int
  deriving DecidableEq
structure Hzd where
  name : Str
  on : Str
  tm : Tms
  deriving DecidableEq
structure Sht where
  hor : Int
  stops : List Str
  paths : List Pth
  doors : List Dor
  routes : List Rte
  trips : List Trp
  hazards : List Hzd
  deriving DecidableEq
structure PthO where
  a : Int
  b : Int
  ln : Int
  deriving DecidableEq
structure DorO where
  a : Int
  b : Int
  ln : Int
  tm : Tms
  deriving DecidableEq
structure RteO where
  stops : List Int
  rides : List Int
  stays : List Int
  deriving DecidableEq
structure TrpO where
  route : Int
  fr : Int
  ev : Int
  un : Int
  deriving DecidableEq
structure HzdO where
  stop : Bool
  on : Int
  tm : Tms
  deriving DecidableEq
structure Nms where
  stops : List Str
  paths : List Str
  doors : List Str
  routes : List Str
  trips : List Str
  hazards : List Str
  deriving DecidableEq
structure Wld where
  hor : Int
  names : Nms
  paths : List PthO
  doors : List DorO
  routes : List RteO
  trips : List TrpO
  hazards : List HzdO
  deriving DecidableEq
structure Wrg where
  err : Int
  kind : Int
  at_ : Int
  deriving DecidableEq
structure Rn where
  trip : Int
  no : Int
  arr : List Int
  dep : List Int
  deriving DecidableEq
structure Idn where
  trip : Int
  no : Int
  deriving DecidableEq
structure Lte where
  trip : Int
  no : Int
  pos : Int
  by_ : Int
  deriving DecidableEq

def cS (s : Str) : List AV := [.str s]
def cI (n : Int) : List AV := [.int .i64 n]
def cTms (t : Tms) : List AV := [.int .i64 t.fr, .int .i64 t.ev, .int .i64 t.ln]
def cWn (t : Wn) : List AV := [.int .i64 t.fr, .int .i64 t.to]
def cPth (p : Pth) : List AV := [.str p.name, .str p.a, .str p.b, .int .i64 p.ln]
def cDor (p : Dor) : List AV := [.str p.name, .str p.a, .str p.b, .int .i64 p.ln, .int .i64 p.tm.fr, .int .i64 p.tm.ev, .int .i64 p.tm.ln]
def cRte (r : Rte) : List AV := [.str r.name, .lst 1 (r.stops.map cS), .lst 1 (r.rides.map cI), .lst 1 (r.stays.map cI)]
def cTrp (t : Trp) : List AV := [.str t.name, .str t.route, .int .i64 t.fr, .int .i64 t.ev, .int .i64 t.un]
def cHzd (h : Hzd) : List AV := [.str h.name, .str h.on, .int .i64 h.tm.fr, .int .i64 h.tm.ev, .int .i64 h.tm.ln]
def cSht (x : Sht) : List AV := [.int .i64 x.hor, .lst 1 (x.stops.map cS), .lst 4 (x.paths.map cPth), .lst 7 (x.doors.map cDor), .lst 4 (x.routes.map cRte), .lst 5 (x.trips.map cTrp), .lst 5 (x.hazards.map cHzd)]
def cPthO (p : PthO) : List AV := [.int .i64 p.a, .int .i64 p.b, .int .i64 p.ln]
def cDorO (p : DorO) : List AV := [.int .i64 p.a, .int .i64 p.b, .int .i64 p.ln, .int .i64 p.tm.fr, .int .i64 p.tm.ev, .int .i64 p.tm.ln]
def cRteO (r : RteO) : List AV := [.lst 1 (r.stops.map cI), .lst 1 (r.rides.map cI), .lst 1 (r.stays.map cI)]
def cTrpO (t : TrpO) : List AV := [.int .i64 t.route, .int .i64 t.fr, .int .i64 t.ev, .int .i64 t.un]
def cHzdO (h : HzdO) : List AV := [.bool h.stop, .int .i64 h.on, .int .i64 h.tm.fr, .int .i64 h.tm.ev, .int .i64 h.tm.ln]
def cNms (n : Nms) : List AV := [.lst 1 (n.stops.map cS), .lst 1 (n.paths.map cS), .lst 1 (n.doors.map cS), .lst 1 (n.routes.map cS), .lst 1 (n.trips.map cS), .lst 1 (n.hazards.map cS)]
def cWld (w : Wld) : List AV := [.int .i64 w.hor, .lst 1 (w.names.stops.map cS), .lst 1 (w.names.paths.map cS), .lst 1 (w.names.doors.map cS), .lst 1 (w.names.routes.map cS), .lst 1 (w.names.trips.map cS), .lst 1 (w.names.hazards.map cS),
  .lst 3 (w.paths.map cPthO), .lst 6 (w.doors.map cDorO), .lst 3 (w.routes.map cRteO), .lst 4 (w.trips.map cTrpO), .lst 5 (w.hazards.map cHzdO)]
def cWrg (w : Wrg) : List AV := [.int .i64 w.err, .int .i64 w.kind, .int .i64 w.at_]
def cRun (r : Rn) : List AV := [.int .i64 r.trip, .int .i64 r.no, .lst 1 (r.arr.map cI), .lst 1 (r.dep.map cI)]
def cIdn (r : Idn) : List AV := [.int .i64 r.trip, .int .i64 r.no]
def cLte (r : Lte) : List AV := [.int .i64 r.trip, .int .i64 r.no, .int .i64 r.pos, .int .i64 r.by_]

theorem fS (s : Str) : cloL (fun _ => false) (cS s) = true := rfl
theorem fI (s : Int) : cloL (fun _ => false) (cI s) = true := rfl
theorem fTms (s : Tms) : cloL (fun _ => false) (cTms s) = true := rfl
theorem fWn (s : Wn) : cloL (fun _ => false) (cWn s) = true := rfl
theorem fPth (s : Pth) : cloL (fun _ => false) (cPth s) = true := rfl
theorem fDor (s : Dor) : cloL (fun _ => false) (cDor s) = true := rfl
theorem fRte (s : Rte) : cloL (fun _ => false) (cRte s) = true := rfl
theorem fTrp (s : Trp) : cloL (fun _ => false) (cTrp s) = true := rfl
theorem fHzd (s : Hzd) : cloL (fun _ => false) (cHzd s) = true := rfl
theorem fPthO (s : PthO) : cloL (fun _ => false) (cPthO s) = true := rfl
theorem fDorO (s : DorO) : cloL (fun _ => false) (cDorO s) = true := rfl
theorem fRteO (s : RteO) : cloL (fun _ => false) (cRteO s) = true := rfl
theorem fTrpO (s : TrpO) : cloL (fun _ => false) (cTrpO s) = true := rfl
theorem fHzdO (s : HzdO) : cloL (fun _ => false) (cHzdO s) = true := rfl
theorem fRun (s : Rn) : cloL (fun _ => false) (cRun s) = true := rfl
theorem fIdn (s : Idn) : cloL (fun _ => false) (cIdn s) = true := rfl
theorem fLte (s : Lte) : cloL (fun _ => false) (cLte s) = true := rfl

theorem qTms (p q : Tms) : eqCells (cTms p) (cTms q) = some (decide (p = q)) := by
  obtain ⟨a1, a2, a3⟩ := p
  obtain ⟨b1, b2, b3⟩ := q
  simp only [cTms, eqCells, eqC1, decide_true, cond_true, Tms.mk.injEq, Bool.decide_and, beq_dec, Bool.and_true]
theorem qWn (p q : Wn) : eqCells (cWn p) (cWn q) = some (decide (p = q)) := by
  obtain ⟨a1, a2⟩ := p
  obtain ⟨b1, b2⟩ := q
  simp only [cWn, eqCells, eqC1, decide_true, cond_true, Wn.mk.injEq, Bool.decide_and, beq_dec, Bool.and_true]
theorem qPth (p q : Pth) : eqCells (cPth p) (cPth q) = some (decide (p = q)) := by
  obtain ⟨a1, a2, a3, a4⟩ := p
  obtain ⟨b1, b2, b3, b4⟩ := q
  simp only [cPth, eqCells, eqC1, decide_true, cond_true, Pth.mk.injEq, Bool.decide_and, beq_dec, Bool.and_true]
theorem qDor (p q : Dor) : eqCells (cDor p) (cDor q) = some (decide (p = q)) := by
  obtain ⟨a1, a2, a3, a4, a5, a6, a7⟩ := p
  obtain ⟨b1, b2, b3, b4, b5, b6, b7⟩ := q
  simp only [cDor, eqCells, eqC1, decide_true, cond_true, Dor.mk.injEq, Tms.mk.injEq, Bool.decide_and, beq_dec, Bool.and_true]
theorem qTrp (p q : Trp) : eqCells (cTrp p) (cTrp q) = some (decide (p = q)) := by
  obtain ⟨a1, a2, a3, a4, a5⟩ := p
  obtain ⟨b1, b2, b3, b4, b5⟩ := q
  simp only [cTrp, eqCells, eqC1, decide_true, cond_true, Trp.mk.injEq, Bool.decide_and, beq_dec, Bool.and_true]
theorem qHzd (p q : Hzd) : eqCells (cHzd p) (cHzd q) = some (decide (p = q)) := by
  obtain ⟨a1, a2, a3, a4, a5⟩ := p
  obtain ⟨b1, b2, b3, b4, b5⟩ := q
  simp only [cHzd, eqCells, eqC1, decide_true, cond_true, Hzd.mk.injEq, Tms.mk.injEq, Bool.decide_and, beq_dec, Bool.and_true]
theorem qPthO (p q : PthO) : eqCells (cPthO p) (cPthO q) = some (decide (p = q)) := by
  obtain ⟨a1, a2, a3⟩ := p
  obtain ⟨b1, b2, b3⟩ := q
  simp only [cPthO, eqCells, eqC1, decide_true, cond_true, PthO.mk.injEq, Bool.decide_and, beq_dec, Bool.and_true]
theorem qDorO (p q : DorO) : eqCells (cDorO p) (cDorO q) = some (decide (p = q)) := by
  obtain ⟨a1, a2, a3, a4, a5, a6⟩ := p
  obtain ⟨b1, b2, b3, b4, b5, b6⟩ := q
  simp only [cDorO, eqCells, eqC1, decide_true, cond_true, DorO.mk.injEq, Tms.mk.injEq, Bool.decide_and, beq_dec, Bool.and_true]
theorem qTrpO (p q : TrpO) : eqCells (cTrpO p) (cTrpO q) = some (decide (p = q)) := by
  obtain ⟨a1, a2, a3, a4⟩ := p
  obtain ⟨b1, b2, b3, b4⟩ := q
  simp only [cTrpO, eqCells, eqC1, decide_true, cond_true, TrpO.mk.injEq, Bool.decide_and, beq_dec, Bool.and_true]
theorem qHzdO (p q : HzdO) : eqCells (cHzdO p) (cHzdO q) = some (decide (p = q)) := by
  obtain ⟨a1, a2, a3, a4, a5⟩ := p
  obtain ⟨b1, b2, b3, b4, b5⟩ := q
  simp only [cHzdO, eqCells, eqC1, decide_true, cond_true, HzdO.mk.injEq, Tms.mk.injEq, Bool.decide_and, beq_dec, Bool.and_true]
theorem qWrg (p q : Wrg) : eqCells (cWrg p) (cWrg q) = some (decide (p = q)) := by
  obtain ⟨a1, a2, a3⟩ := p
  obtain ⟨b1, b2, b3⟩ := q
  simp only [cWrg, eqCells, eqC1, decide_true, cond_true, Wrg.mk.injEq, Bool.decide_and, beq_dec, Bool.and_true]
theorem qIdn (p q : Idn) : eqCells (cIdn p) (cIdn q) = some (decide (p = q)) := by
  obtain ⟨a1, a2⟩ := p
  obtain ⟨b1, b2⟩ := q
  simp only [cIdn, eqCells, eqC1, decide_true, cond_true, Idn.mk.injEq, Bool.decide_and, beq_dec, Bool.and_true]
theorem qLte (p q : Lte) : eqCells (cLte p) (cLte q) = some (decide (p = q)) := by
  obtain ⟨a1, a2, a3, a4⟩ := p
  obtain ⟨b1, b2, b3, b4⟩ := q
  simp only [cLte, eqCells, eqC1, decide_true, cond_true, Lte.mk.injEq, Bool.decide_and, beq_dec, Bool.and_true]

/-- Where the first thing of a list is that is so; -1. -/
def fidx {α : Type} (p : α → Bool) (xs : List α) : Int := match xs.findIdx? p with
  | some i => i
  | none => -1
theorem fidx_hit {α : Type} {p : α → Bool} {xs : List α} {i : Nat} (h : i < xs.length) (he : p xs[i] = true) (hb : ∀ x ∈ xs.take i, p x = false) : fidx p xs = i := by
  have : xs.findIdx? p = some i := by
    rw [List.findIdx?_eq_some_iff_getElem]
    refine ⟨h, he, fun j hj => ?_⟩
    have := hb xs[j] (by rw [List.mem_take_iff_getElem]; exact ⟨j, by omega, rfl⟩)
    simp [this]
  simp [fidx, this]
theorem fidx_miss {α : Type} {p : α → Bool} {xs : List α} (hb : ∀ x ∈ xs, p x = false) : fidx p xs = -1 := by
  have : xs.findIdx? p = none := by
    rw [List.findIdx?_eq_none_iff]
    exact hb
  simp [fidx, this]
theorem none_succ {α : Type} {p : α → Bool} {xs : List α} {i : Nat} (hb : ∀ x ∈ xs.take i, p x = false) (h : i < xs.length) (he : p xs[i] = false) : ∀ x ∈ xs.take (i + 1), p x = false := by
  intro x hx
  rw [List.take_succ_eq_append_getElem h, List.mem_append, List.mem_singleton] at hx
  rcases hx with hx | rfl
  · exact hb x hx
  · exact he
theorem none_all {α : Type} {p : α → Bool} {xs : List α} {i : Nat} (hb : ∀ x ∈ xs.take i, p x = false) (h : xs.length ≤ i) : ∀ x ∈ xs, p x = false := by
  rwa [List.take_of_length_le h] at hb
theorem fidx_geq {α : Type} (p : α → Bool) (xs : List α) : decide (0 ≤ fidx p xs) = xs.any p := by
  unfold fidx
  cases h : xs.findIdx? p with
  | none =>
    rw [List.findIdx?_eq_none_iff] at h
    simp
    exact h
  | some i =>
    rw [List.findIdx?_eq_some_iff_getElem] at h
    obtain ⟨h1, h2, _⟩ := h
    simp
    exact ⟨xs[i], List.getElem_mem _, h2⟩
end Go.Ab
