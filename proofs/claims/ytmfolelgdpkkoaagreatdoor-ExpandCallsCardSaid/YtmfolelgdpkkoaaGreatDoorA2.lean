/- The framework of abstract states, part 7: calls; strings; slices cut; the operations gathered into one function that reckons. -/
import Derived.Laws.StructEq
import Derived.Lib.Strings
import Derived.MapKept
import Derived.Test.YtmfolelgdpkkoaaGreatDoorA1
set_option linter.unusedVariables false
set_option linter.unusedSimpArgs false
namespace Go.Ab

abbrev After (G : GlP) (E : Env) (w : World) (μ : Mu) (Lf : Lbl → Option ABox) (r : AV) (gp : BL) (v : Value) (w' : World) : Prop :=
  ∃ μ', Core G E w' μ' (ovr Lf gp) ∧ Later w (E.O μ) w' (E.O μ') ∧ Keeps μ μ' ∧ Cv w' (E.O μ') r μ' v

/-- A function, called with these values while these boxes hold what they hold, hands back r, and these boxes are then so. -/
structure Meets (P : Program) (G : GlP) (f : FuncId) (args : List AV) (fp : BL) (r : AV) (gp : BL) : Prop where
  enters : ∀ (a : Array Value) (w : World), (callFunc f a).run P w = .ok (.enter f a) w
  calls : ∀ (E : Env) (w : World) (μ : Mu) (Lf : Lbl → Option ABox) (vs : List Value), Core G E w μ Lf → (∀ l b, getL fp l = some b → Lf l = some b) →
    (∀ l b, getL gp l = some b → (getL fp l).isSome = true ∨ Lf l = none) → CvL w (E.O μ) args μ vs →
    Calls P f vs.toArray w fun e w' => ∃ v, e = .returned v ∧ After G E w μ Lf r gp v w'

def GivesV (P : Program) (x : Value) (args : List Value) (w : World) (R : Value → World → Prop) : Prop :=
  match (Deferred.ofValue x args.toArray >>= fun d => invoke d.target d.args).run P w with
  | .ok (.value v) w' => R v w'
  | .ok (.enter f a) w' => Calls P f a w' fun | .returned v, w'' => R v w'' | _, _ => False
  | .ok (.round l f tmps assign body) w' => RoundIn Fence.wide 0 P l f tmps assign body w' fun | .returned v, w'' => R v w'' | _, _ => False
  | _ => False

structure MeetsV (P : Program) (G : GlP) (fv : AV) (args : List AV) (fp : BL) (r : AV) (gp : BL) : Prop where
  gives : ∀ (E : Env) (w : World) (μ : Mu) (Lf : Lbl → Option ABox) (x : Value) (vs : List Value), Core G E w μ Lf → (∀ l b, getL fp l = some b → Lf l = some b) →
    (∀ l b, getL gp l = some b → (getL fp l).isSome = true ∨ Lf l = none) → Cv w (E.O μ) fv μ x → CvL w (E.O μ) args μ vs → GivesV P x vs w (After G E w μ Lf r gp)

theorem MeetsV.of {P : Program} {G : GlP} {f : FuncId} {first cap args : List AV} {fp : BL} {r : AV} {gp : BL} (h : Meets P G f (first ++ args ++ cap) fp r gp) : MeetsV P G (.fn (.func f) first cap) args fp r gp := by
  refine ⟨fun E w μ Lf x vs C hf hg hx hv => ?_⟩
  simp only [Cv] at hx
  obtain ⟨xs, ys, rfl, h1, h2⟩ := hx
  have := h.calls E w μ Lf _ C hf hg ((h1.append hv).append h2)
  unfold GivesV
  have hrun : (Deferred.ofValue (.func (.func f) xs ys) vs.toArray >>= fun d => invoke d.target d.args).run P w = .ok (.enter f (xs.toList ++ vs ++ ys.toList).toArray) w := by
    have ha : xs ++ vs.toArray ++ ys = (xs.toList ++ vs ++ ys.toList).toArray := by
      apply Array.ext'
      rw [Array.toList_append, Array.toList_append]
    show Sem.run P (Bind.bind (Deferred.ofValue (.func (.func f) xs ys) vs.toArray) fun d => invoke d.target d.args) w = _
    rw [Sem.run_bind]
    show (Sem.run P (Pure.pure _) w).andThen _ = _
    rw [Sem.run_pure]
    show Sem.run P (invoke (.fn (.func f) ys) (xs ++ vs.toArray)) w = _
    show Sem.run P (callFunc f (xs ++ vs.toArray ++ ys)) w = _
    rw [h.enters, ha]
  rw [hrun]
  refine this.mono fun e w' he => ?_
  obtain ⟨v, rfl, ha⟩ := he
  exact ha

section ops
variable {P : Program} {G : GlP} {Θ : TT} {o : Oper} {V : Operand → AV}

theorem tri_call (fo : Operand) (args : Array Operand) (tys : Array TypeId) (ho : o.op = .call { callee := .value fo, args := args, argTypes := tys }) {fp : BL} {r : AV} {gp : BL}
    (h : MeetsV P G (V fo) (args.toList.map V) fp r gp) : Tri P G o V fp r gp := by
  intro E w μ Lf ρ C hf hg hv _
  have hm : ∀ (l : List Operand), (∀ x ∈ l, x ∈ o.op.operands) → CvL w (E.O μ) (l.map V) μ (l.map ρ) := by
    intro l
    induction l with
    | nil => intro _; simp [CvL]
    | cons a l ih =>
      intro h
      simp only [List.map_cons, CvL]
      exact ⟨_, _, rfl, hv a (h a List.mem_cons_self), ih fun x hx => h x (List.mem_cons_of_mem _ hx)⟩
  have := h.gives E w μ Lf (ρ fo) (args.toList.map ρ) C hf hg (hv fo (by simp [ho, Op.operands, Call.operands])) (hm _ fun x hx => by
    rw [ho]; simp only [Op.operands, Call.operands]; exact Array.mem_append_right _ (by simpa using hx))
  have he : execOp ρ o = (Deferred.ofValue (ρ fo) (args.toList.map ρ).toArray >>= fun d => invoke d.target d.args) := by
    have ha : args.map ρ = (args.toList.map ρ).toArray := by
      apply Array.ext'
      rw [Array.toList_map]
    simp only [execOp, ho, resolve, ha]
  unfold OpGives
  rw [he]
  unfold GivesV at this
  revert this
  cases (Deferred.ofValue (ρ fo) (args.toList.map ρ).toArray >>= fun d => invoke d.target d.args).run P w with
  | halt h w' => exact id
  | ok n w' => cases n <;> first | exact id | exact False.elim

/-! Strings. -/
def strOp (op : BinOp) (a b : Str) : Option AV := match op with
  | .eql => some (.bool (a == b))
  | .neq => some (.bool (!(a == b)))
  | _ => none
theorem tri_strOp (op : BinOp) (t t' : TypeId) (x y : Operand) (ho : o.op = .binOp op t x y t') (a b : Str) (hx : V x = .str a) (hy : V y = .str b) (r : AV) (hr : strOp op a b = some r) :
    Tri P G o V [] r [] :=
  tri_pure fun E w μ Lf ρ C hf hv => by
    have hxv := hv x (by simp [ho, Op.operands])
    have hyv := hv y (by simp [ho, Op.operands])
    rw [hx] at hxv
    rw [hy] at hyv
    simp only [Cv] at hxv hyv
    have hg : ∀ p q, (eqGuard op t p q (.string ⟨a.toArray⟩) (.string ⟨b.toArray⟩)).run P w = .ok () w := fun p q => by
      unfold eqGuard
      cases op <;> simp
    have h1 : (⟨a.toArray⟩ : ByteArray).toList = a := by rw [Lib.toList_data]
    have h2 : (⟨b.toArray⟩ : ByteArray).toList = b := by rw [Lib.toList_data]
    cases op <;> simp only [strOp, Option.some.injEq, reduceCtorEq] at hr <;> (
      subst hr
      refine ⟨_, ?_, by simp only [Cv]; rfl⟩
      simp [execOp, ho, hxv.1, hyv.1, hg, binOp, Op.stringOp, h1, h2])

theorem tri_concat (t t' : TypeId) (x y : Operand) (ho : o.op = .binOp .add t x y t') (a b : Str) (hx : V x = .str a) (hy : V y = .str b) (hl : a.length + b.length ≤ 9223372036854775807) :
    Tri P G o V [] (.str (a ++ b)) [] :=
  tri_pure fun E w μ Lf ρ C hf hv => by
    have hxv := hv x (by simp [ho, Op.operands])
    have hyv := hv y (by simp [ho, Op.operands])
    rw [hx] at hxv
    rw [hy] at hyv
    simp only [Cv] at hxv hyv
    have hg : ∀ p q, (eqGuard .add t p q (.string ⟨a.toArray⟩) (.string ⟨b.toArray⟩)).run P w = .ok () w := fun p q => by
      unfold eqGuard
      simp
    refine ⟨.string ⟨(a ++ b).toArray⟩, ?_, by simp only [Cv, maxLen]; exact ⟨by first | rfl | trivial, by simp; omega⟩⟩
    have hs1 : (⟨a.toArray⟩ : ByteArray).size = a.length := rfl
    have hs2 : (⟨b.toArray⟩ : ByteArray).size = b.length := rfl
    have hmx : IntKind.i64.max = 9223372036854775807 := by decide
    have hle : ¬ IntKind.i64.max < ((a.length : Int) + (b.length : Int)) := by rw [hmx]; omega
    have hle' : (a.length : Int) + (b.length : Int) ≤ IntKind.i64.max := by rw [hmx]; omega
    have happ : (⟨a.toArray⟩ : ByteArray) ++ ⟨b.toArray⟩ = ⟨(a ++ b).toArray⟩ := by
      apply ByteArray.ext
      simp
    simp [execOp, ho, hxv.1, hyv.1, hg, binOp, Op.stringOp, hs1, hs2, hle, hle', happ]
    omega

theorem run_equalIn_bool {P : Program} {t : TypeId} {w : World} (hu : (underlying t).run P w = .ok .bool w) (d : Nat) (a b : Bool) : (Op.equalIn (d + 1) t (.bool a) (.bool b)).run P w = .ok (a == b) w := by
  simp only [Op.equalIn, Sem.run_bind, hu, Result.andThen_ok]
  rfl
theorem run_equal_bool {P : Program} {t : TypeId} {w : World} (hu : (underlying t).run P w = .ok .bool w) (a b : Bool) : (Op.equal t (.bool a) (.bool b)).run P w = .ok (a == b) w := run_equalIn_bool hu 9999 a b

theorem tri_boolEq (op : BinOp) (t t' : TypeId) (x y : Operand) (ho : o.op = .binOp op t x y t') (hΘ : TTok P Θ) (ty : Ty) (ht : Θ t = some ty) (hd : ty.d = .bool) (a b : Bool) (hx : V x = .bool a) (hy : V y = .bool b)
    (hop : op = .eql ∨ op = .neq) : Tri P G o V [] (.bool (if op = .eql then a == b else a != b)) [] :=
  tri_pure fun E w μ Lf ρ C hf hv => by
    have hxv := hv x (by simp [ho, Op.operands])
    have hyv := hv y (by simp [ho, Op.operands])
    rw [hx] at hxv
    rw [hy] at hyv
    simp only [Cv] at hxv hyv
    have hu := r_under hΘ ht w
    rw [hd] at hu
    refine ⟨_, ?_, by simp only [Cv]; rfl⟩
    have he := run_equal_bool hu a b
    rcases hop with rfl | rfl <;> simp [execOp, ho, hxv, hyv, binOp, eqGuard, he, bne]

/-! A byte of a string; an element of an array by value. -/
theorem tri_index_str (hΘ : TTok P Θ) (t : TypeId) (x ix : Operand) (ho : o.op = .index t x ix) (y : Ty) (hy : Θ t = some y) (hd : y.d = .string) (s : Str) (hx : V x = .str s) (k : IntKind) (i : Int) (hi : V ix = .int k i)
    (h0 : 0 ≤ i) (c : UInt8) (hc : s[i.toNat]? = some c) : Tri P G o V [] (.int .u8 (c.toNat : Int)) [] :=
  tri_pure fun E w μ Lf ρ C hf hv => by
    have hxv := hv x (by simp [ho, Op.operands])
    have hiv := hv ix (by simp [ho, Op.operands])
    rw [hx] at hxv
    rw [hi] at hiv
    simp only [Cv] at hxv hiv
    have hu := r_under hΘ hy w
    rw [hd] at hu
    have hg : (⟨s.toArray⟩ : ByteArray)[i.toNat]? = some c := by
      have hlt : i.toNat < s.length := (List.getElem?_eq_some_iff.1 hc).1
      have he : s[i.toNat] = c := (List.getElem?_eq_some_iff.1 hc).2
      have hsz : (⟨s.toArray⟩ : ByteArray).size = s.length := rfl
      rw [getElem?_pos _ _ (by rw [hsz]; exact hlt)]
      congr 1
    refine ⟨.int .u8 (c.toNat : Int), ?_, by simp [Cv]⟩
    simp only [execOp, ho, hxv.1, hiv, Instr.index, Sem.run_bind, asIntOf, hu, Sem.run_pure, Result.andThen_ok]
    simp [h0, hg]

theorem tri_index_agg (hΘ : TTok P Θ) (t : TypeId) (x ix : Operand) (ho : o.op = .index t x ix) (y z : Ty) (n : Nat) (e : TypeId) (hy : Θ t = some y) (hd : y.d = .array n e) (hz : Θ e = some z) (hone : z.agg = false) (hsz : z.size = 1)
    (cs : List AV) (hx : V x = .agg cs) (k : IntKind) (i : Nat) (hi : V ix = .int k i) (hlt : i < n) (c : AV) (hc : cs[i]? = some c) : Tri P G o V [] c [] :=
  tri_pure fun E w μ Lf ρ C hf hv => by
    have hxv := hv x (by simp [ho, Op.operands])
    have hiv := hv ix (by simp [ho, Op.operands])
    rw [hx] at hxv
    rw [hi] at hiv
    simp only [Cv] at hxv hiv
    obtain ⟨vs, h1, h2, h3⟩ := hxv
    obtain ⟨v, h4, h5⟩ := h2.get i c hc
    have hu := r_under hΘ hy w
    rw [hd] at hu
    have hs := r_size hΘ hz w
    have ha := r_isAgg hΘ hz w
    rw [hone] at ha
    rw [hsz] at hs
    have h4' : vs[i]? = some v := by simpa using h4
    refine ⟨v, ?_, h5⟩
    have hin : (0 : Int) ≤ i ∧ (i : Int) < (n : Int) := ⟨by omega, by omega⟩
    simp only [execOp, ho, h1, hiv, Instr.index, Sem.run_bind, asIntOf, hu, Sem.run_pure, Result.andThen_ok]
    simp [hin, hs, part, ha, h4']

/-! Cuts. -/
theorem tri_slice_str (hΘ : TTok P Θ) (t : TypeId) (x : Operand) (lo hi : Option Operand) (ho : o.op = .slice t x lo hi none) (y : Ty) (hy : Θ t = some y) (hd : y.d = .string) (s : Str) (hx : V x = .str s)
    (a b : Nat) (ha : match lo with | none => a = 0 | some q => ∃ k, V q = .int k a) (hb : match hi with | none => b = s.length | some q => ∃ k, V q = .int k b) (hab : a ≤ b) (hbs : b ≤ s.length) :
    Tri P G o V [] (.str ((s.take b).drop a)) [] :=
  tri_pure fun E w μ Lf ρ C hf hv => by
    have hxv := hv x (by simp [ho, Op.operands])
    rw [hx] at hxv
    simp only [Cv] at hxv
    have hu := r_under hΘ hy w
    rw [hd] at hu
    have hsz : (⟨s.toArray⟩ : ByteArray).size = s.length := rfl
    have hex : (⟨s.toArray⟩ : ByteArray).extract a b = ⟨((s.take b).drop a).toArray⟩ := by
      rw [Lib.extract_eq]
      simp only [List.toList_toArray, List.drop_take]
    have hbo : (b : Int) ≤ (s.length : Int) := by omega
    have hao : (a : Int) ≤ (b : Int) := by omega
    have h0 : (0 : Int) ≤ a := by omega
    have h0' : (0 : Int) ≤ b := by omega
    have n1 : ¬ s.length < b := by omega
    have n2 : ¬ b < a := by omega
    have n3 : ¬ s.length < a := by omega
    have n4 : a ≤ s.length := by omega
    refine ⟨.string ⟨((s.take b).drop a).toArray⟩, ?_, by simp only [Cv]; exact ⟨by first | rfl | trivial, by simp; omega⟩⟩
    have hlo : ∀ q, lo = some q → ∃ k, ρ q = .int k a := fun q hq => by
      subst hq
      obtain ⟨k, hk⟩ := ha
      have := hv q (by simp [ho, Op.operands])
      rw [hk] at this
      simp only [Cv] at this
      exact ⟨k, this⟩
    have hhi : ∀ q, hi = some q → ∃ k, ρ q = .int k b := fun q hq => by
      subst hq
      obtain ⟨k, hk⟩ := hb
      have := hv q (by simp [ho, Op.operands])
      rw [hk] at this
      simp only [Cv] at this
      exact ⟨k, this⟩
    cases lo with
    | none =>
      simp only at ha
      subst ha
      cases hi with
      | none =>
        simp only at hb
        subst hb
        simp [execOp, ho, hxv.1, Instr.sliceAt, Instr.slice, Instr.sliceBounds, hu, hsz, hex]
      | some q =>
        obtain ⟨k, hk⟩ := hhi q rfl
        simp [execOp, ho, hxv.1, Instr.sliceAt, Instr.slice, Instr.sliceBounds, Instr.sliceBound, asIntOf, hu, hsz, hk, hbo, h0', hex, n1, n2, n3, n4, hab, hbs]
    | some p =>
      obtain ⟨j, hj⟩ := hlo p rfl
      cases hi with
      | none =>
        simp only at hb
        subst hb
        simp [execOp, ho, hxv.1, Instr.sliceAt, Instr.slice, Instr.sliceBounds, Instr.sliceBound, asIntOf, hu, hsz, hj, hao, h0, hex, n1, n2, n3, n4, hab, hbs]
      | some q =>
        obtain ⟨k, hk⟩ := hhi q rfl
        simp [execOp, ho, hxv.1, Instr.sliceAt, Instr.slice, Instr.sliceBounds, Instr.sliceBound, asIntOf, hu, hsz, hj, hk, hao, h0, hbo, h0', hex, n1, n2, n3, n4, hab, hbs]
end ops
/-! A slice literal. -/
def cellsAll (sz : Nat) : Nat → List (Nat × AV) → Option (List (List AV))
  | _, [] => some []
  | k, (i, v) :: r => cond (Nat.beq i k) (match cellsOf v with
    | some vs => cond (Nat.beq vs.length sz) (match cellsAll sz (k + 1) r with | some xs => some (vs :: xs) | none => none) none
    | none => none) none

theorem fill_consec {w : World} {O : Nat → Prop} {μ : Mu} {sz : Nat} : ∀ (parts : List (Nat × AV)) (vals : List (Nat × Value)) (k : Nat) (cur : Array Value) (xs : List (List AV)),
    cellsAll sz k parts = some xs → parts.map (·.1) = vals.map (·.1) → CvL w O (parts.map (·.2)) μ (vals.map (·.2)) → cur.size = (k + parts.length) * sz →
    ∃ vr us, Instr.fill (fun i => some (i * sz, sz)) cur vals = some vr ∧ vr.toList = cur.toList.take (k * sz) ++ us ∧ CvL w O xs.flatten μ us ∧ allOne xs.flatten ∧ (∀ x ∈ xs, x.length = sz) ∧ xs.length = parts.length
  | [], vals, k, cur, xs, hc, hi, hp, hs => by
    simp only [cellsAll, Option.some.injEq] at hc
    subst hc
    cases vals with
    | nil => exact ⟨cur, [], rfl, by rw [List.take_of_length_le (by simp; simp at hs; omega)]; simp, by simp [CvL], (fun c h => by simp at h), (fun c h => by simp at h), rfl⟩
    | cons => simp at hi
  | (i, v) :: parts, [], k, cur, xs, hc, hi, hp, hs => by simp at hi
  | (i, v) :: parts, (j, x) :: vals, k, cur, xs, hc, hi, hp, hs => by
    simp only [List.map_cons, List.cons.injEq] at hi
    obtain ⟨rfl, hi⟩ := hi
    simp only [List.map_cons, CvL] at hp
    obtain ⟨x', xs', e, hx, hp⟩ := hp
    injection e with e1 e2
    subst e1 e2
    simp only [cellsAll] at hc
    cases hb : Nat.beq i k with
    | false => rw [hb] at hc; cases hc
    | true =>
      rw [hb] at hc
      obtain rfl := Nat.eq_of_beq_eq_true hb
      simp only [cond_true] at hc
      cases hcl : cellsOf v with
      | none => rw [hcl] at hc; cases hc
      | some ds =>
        rw [hcl] at hc
        simp only at hc
        cases hb2 : Nat.beq ds.length sz with
        | false => rw [hb2] at hc; cases hc
        | true =>
          rw [hb2] at hc
          obtain rfl := Nat.eq_of_beq_eq_true hb2
          simp only [cond_true] at hc
          cases hr : cellsAll ds.length (i + 1) parts with
          | none => rw [hr] at hc; cases hc
          | some ys =>
            rw [hr] at hc
            simp only [Option.some.injEq] at hc
            subst hc
            obtain ⟨c1, c2⟩ := cellsOf_spec hcl hx
            have l2 := c1.length
            simp only [Array.length_toList] at l2
            simp only [List.length_cons] at hs
            have hmul : (i + (parts.length + 1)) * ds.length = i * ds.length + ds.length + parts.length * ds.length := by rw [Nat.add_mul, Nat.add_mul]; omega
            rw [hmul] at hs
            have hfold := fold_set x.cells.toList (i * ds.length) 0 cur (by simp; omega)
            have hnew : ∃ cur', x.cells.zipIdx.foldl (fun cs (y : Value × Nat) => cs.setIfInBounds (i * ds.length + y.2) y.1) cur = cur' ∧ cur'.toList = cur.toList.take (i * ds.length) ++ x.cells.toList ++ cur.toList.drop (i * ds.length + x.cells.toList.length) := by
              refine ⟨_, rfl, ?_⟩
              rw [← Array.foldl_toList, Array.toList_zipIdx]
              simpa using hfold
            obtain ⟨cur', hv1, hv2⟩ := hnew
            have hlen' : cur'.size = (i + 1 + parts.length) * ds.length := by
              have := congrArg List.length hv2
              simp only [Array.length_toList, List.length_append, List.length_take, List.length_drop] at this
              rw [Nat.add_mul, Nat.add_mul]
              omega
            obtain ⟨vr, us, g1, g2, g3, g4, g5, g6⟩ := fill_consec (w := w) (O := O) (μ := μ) parts vals (i + 1) cur' ys hr hi hp hlen'
            refine ⟨vr, x.cells.toList ++ us, ?_, ?_, ?_, ?_, ?_, by simp [g6]⟩
            · simp only [Instr.fill]
              rw [if_neg (by simp; omega), hv1]
              exact g1
            · rw [g2, hv2, ← List.append_assoc]
              congr 1
              have hl : (cur.toList.take (i * ds.length) ++ x.cells.toList).length = (i + 1) * ds.length := by
                simp only [List.length_append, List.length_take, Array.length_toList]
                rw [Nat.add_mul]
                omega
              rw [← hl]
              exact List.take_left
            · simpa using c1.append g3
            · simpa using c2.append g4
            · intro y hy
              rcases List.mem_cons.1 hy with rfl | hy
              · rfl
              · exact g5 y hy

section ops
variable {P : Program} {G : GlP} {Θ : TT} {o : Oper} {V : Operand → AV}
theorem tri_buildSlice (hΘ : TTok P Θ) (t : TypeId) (n : Nat) (parts : Array (Nat × Operand)) (ho : o.op = .buildSlice t n parts) (y z : Ty) (e : TypeId) (hy : Θ t = some y) (hd : y.d = .slice e) (hz : Θ e = some z)
    (hn : n = parts.size) (hsm : n * z.size ≤ 16777216) (hn2 : n ≤ 16777216) (xs : List (List AV)) (hx : cellsAll z.size 0 (parts.toList.map fun p => (p.1, V p.2)) = some xs) (hfree : cloL (fun _ => false) xs.flatten = true) : Tri P G o V [] (.lst z.size xs) [] := by
  intro E w μ Lf ρ C hf hg hv _
  have hps : ∀ (l : List (Nat × Operand)), (∀ p ∈ l, p.2 ∈ o.op.operands) → CvL w (E.O μ) ((l.map fun p => (p.1, V p.2)).map (·.2)) μ ((l.map fun p => (p.1, ρ p.2)).map (·.2)) := by
    intro l
    induction l with
    | nil => intro _; simp [CvL]
    | cons a l ih =>
      intro h
      simp only [List.map_cons, CvL]
      exact ⟨_, _, rfl, hv _ (h a List.mem_cons_self), ih fun x hx => h x (List.mem_cons_of_mem _ hx)⟩
  have hidx : (parts.toList.map fun p => (p.1, V p.2)).map (·.1) = (parts.toList.map fun p => (p.1, ρ p.2)).map (·.1) := by simp [List.map_map, Function.comp_def]
  have hu := fun w => r_under hΘ hy w
  simp only [hd] at hu
  have hs := fun w => r_size hΘ hz w
  have hz0 := fun w => r_zero hΘ hz w
  -- the cells
  let zero : Array Value := if n * z.size = 0 then #[] else z.zero.cells
  let cur : Array Value := (Array.range (n * z.size)).map (zero[· % zero.size]!)
  obtain ⟨vr, us, g1, g2, g3, g4, g5, g6⟩ := fill_consec (w := w) (O := E.O μ) (μ := μ) (sz := z.size) (parts.toList.map fun p => (p.1, V p.2)) (parts.toList.map fun p => (p.1, ρ p.2)) 0 cur xs hx hidx
    (hps _ fun p hp => by
      rw [ho]
      simp only [Op.operands, List.mem_toArray]
      exact List.mem_map_of_mem hp) (by simp [cur, hn])
  simp only [Nat.zero_mul, List.take_zero, List.nil_append] at g2
  have hlen : xs.length = n := by rw [g6, hn]; simp
  have hr : (execOp ρ o).run P w = .ok (.value (.slice (some ⟨w.heap.size, 0, none⟩) n n)) (w.alloc (.cells vr e)) := by
    have hrun : (Instr.buildSlice t n (parts.map fun (i, x) => (i, ρ x))).run P w = .ok (.slice (some ⟨w.heap.size, 0, none⟩) n n) (w.alloc (.cells vr e)) := by
      have g1' : Instr.fill (fun i => some (i * z.size, z.size)) cur (parts.map fun (i, x) => (i, ρ x)).toList = some vr := by simpa using g1
      have hno : ¬ 2 ^ 24 < n * z.size := by omega
      simp only [Instr.buildSlice, Sem.run_bind, hu, Result.andThen_ok, hs]
      rw [if_neg hno]
      by_cases h0 : n * z.size = 0
      · have hc : cur = (Array.range (n * z.size)).map ((#[] : Array Value)[· % (#[] : Array Value).size]!) := by simp only [cur, zero, h0, if_true]
        rw [hc] at g1'
        simp only [h0, if_true, Sem.run_bind, Sem.run_pure, Result.andThen_ok] at g1' ⊢
        rw [g1']
        rfl
      · have hc : cur = (Array.range (n * z.size)).map (z.zero.cells[· % z.zero.cells.size]!) := by simp only [cur, zero, h0, if_false]
        rw [hc] at g1'
        simp only [h0, if_false, Sem.run_bind, hz0, Sem.run_pure, Result.andThen_ok]
        rw [g1']
        rfl
    simp only [execOp, ho, Sem.run_bind, hrun]
    rfl
  have ha := C.anon (.cells vr e)
  unfold OpGives
  rw [hr]
  refine ⟨μ, by rw [ovr_nil]; exact ha.1, ha.2, Keeps.refl _, ?_⟩
  simp only [Cv]
  refine ⟨some ⟨w.heap.size, 0, none⟩, n, by rw [hlen], by omega, ?_, ?_⟩
  · simp only [maxLen]
    omega
  · by_cases hx0 : xs = []
    · exact .inl hx0
    · refine .inr ⟨w.heap.size, 0, rfl, by rw [heap_alloc_size]; omega, ?_, ?_⟩
      · rintro (h | h)
        · have := C.ownlt _ h; omega
        · have := C.Xlt _ h; have := C.size; omega
      · have h1 := (g3.mono ha.2 _ (Keeps.refl _)).relabel (D := fun _ => false) (μ' := fun _ => none) (fun l h => by cases h) _ hfree
        refine CvR.of_cells (heap_alloc_self w (.cells vr e)) h1 g4 g5 fun j v hj => ?_
        rw [← g2] at hj
        simpa using hj
theorem tri_buildSlice0 (hΘ : TTok P Θ) (t : TypeId) (ho : o.op = .buildSlice t 0 #[]) (y z : Ty) (e : TypeId) (hy : Θ t = some y) (hd : y.d = .slice e) (hz : Θ e = some z) : Tri P G o V [] .emp [] := by
  intro E w μ Lf ρ C hf hg hv _
  have hu := fun w => r_under hΘ hy w
  simp only [hd] at hu
  have hs := fun w => r_size hΘ hz w
  have hr : (execOp ρ o).run P w = .ok (.value (.slice (some ⟨w.heap.size, 0, none⟩) 0 0)) (w.alloc (.cells #[] e)) := by
    have hrun : (Instr.buildSlice t 0 #[]).run P w = .ok (.slice (some ⟨w.heap.size, 0, none⟩) 0 0) (w.alloc (.cells #[] e)) := by
      simp only [Instr.buildSlice, Sem.run_bind, hu, Result.andThen_ok, hs]
      have e0 : ∀ f : Nat → Value, Array.map f (Array.range 0) = #[] := fun f => by
        apply Array.ext'
        simp
      simp only [Nat.zero_mul, if_true, Sem.run_pure, Sem.run_bind, Result.andThen_ok, Instr.fill, e0]
      rfl
    simp only [execOp, ho, Sem.run_bind, Array.map_empty, hrun]
    rfl
  have ha := C.anon (.cells #[] e)
  unfold OpGives
  rw [hr]
  refine ⟨μ, by rw [ovr_nil]; exact ha.1, ha.2, Keeps.refl _, ?_⟩
  simp only [Cv]
  exact ⟨_, rfl⟩
end ops
end Go.Ab
/- The framework of abstract states, a part more: what further operations do: comparisons with nil, of structs; quotients, least and greatest; cuts of slices; cells of rows. -/
set_option linter.unusedVariables false
set_option linter.unusedSimpArgs false
namespace Go.Ab

/-! Structs of plain cells compared. -/
def eqC1 : AV → AV → Option Bool
  | .int k a, .int k' b => cond (decide (k = k')) (some (a == b)) none
  | .str a, .str b => some (a == b)
  | .bool a, .bool b => some (a == b)
  | _, _ => none
def eqCells : List AV → List AV → Option Bool
  | [], [] => some true
  | a :: as1, b :: bs => match eqC1 a b, eqCells as1 bs with
    | some x, some y => some (x && y)
    | _, _ => none
  | _, _ => none
inductive CK where
  | i (k : IntKind)
  | s
  | b
def CK.fit : CK → AV → Bool
  | .i k, .int k' _ => decide (k = k')
  | .s, .str _ => true
  | .b, .bool _ => true
  | _, _ => false
def fitL : List CK → List AV → Bool
  | [], [] => true
  | k :: ks, a :: as1 => k.fit a && fitL ks as1
  | _, _ => false
def flds (S : TypeId → Option (List CK)) : Nat → List Field → Option (List CK)
  | _, [] => some []
  | off, f :: fs => cond (Nat.beq f.offset off && (f.name != "_")) (match S f.type with | some l => (match flds S (off + l.length) fs with | some r => some (l ++ r) | none => none) | none => none) none
def eqShape (P : Program) (Θ : TT) : Nat → TypeId → Option (List CK)
  | 0, _ => none
  | n + 1, t => match Θ t with
    | none => none
    | some y => match y.d with
      | .int k => cond (Nat.beq y.size 1) (some [.i k]) none
      | .string => cond (Nat.beq y.size 1) (some [.s]) none
      | .bool => cond (Nat.beq y.size 1) (some [.b]) none
      | .struct fs => cond (P.stoodInHeld t) none (match flds (eqShape P Θ n) 0 fs.toList with | some m => cond (Nat.beq m.length y.size) (some m) none | none => none)
      | _ => none
theorem fitL_length : ∀ {ks : List CK} {as1 : List AV}, fitL ks as1 = true → as1.length = ks.length
  | [], [], h => rfl
  | [], a :: as1, h => by simp [fitL] at h
  | k :: ks, [], h => by simp [fitL] at h
  | k :: ks, a :: as1, h => by
    simp only [fitL, Bool.and_eq_true] at h
    simp [fitL_length h.2]
theorem fitL_append : ∀ {ks js : List CK} {as1 : List AV}, fitL (ks ++ js) as1 = true → fitL ks (as1.take ks.length) = true ∧ fitL js (as1.drop ks.length) = true
  | [], js, as1, h => ⟨by simp [fitL], by simpa using h⟩
  | k :: ks, js, [], h => by simp [fitL] at h
  | k :: ks, js, a :: as1, h => by
    simp only [List.cons_append, fitL, Bool.and_eq_true] at h
    obtain ⟨h1, h2⟩ := fitL_append h.2
    simp only [List.length_cons, List.take_succ_cons, List.drop_succ_cons, fitL, Bool.and_eq_true]
    exact ⟨⟨h.1, h1⟩, h2⟩

theorem eqCells_split : ∀ (k : Nat) (cs ds : List AV) (r : Bool), k ≤ cs.length → eqCells cs ds = some r → ∃ r1 r2, eqCells (cs.take k) (ds.take k) = some r1 ∧ eqCells (cs.drop k) (ds.drop k) = some r2 ∧ r = (r1 && r2)
  | 0, cs, ds, r, hk, h => ⟨true, r, by simp [eqCells], by simpa using h, by simp⟩
  | k + 1, [], ds, r, hk, h => by simp at hk
  | k + 1, a :: cs, [], r, hk, h => by simp [eqCells] at h
  | k + 1, a :: cs, b :: ds, r, hk, h => by
    simp only [eqCells] at h
    split at h
    · rename_i x y hx hy
      injection h with h
      subst h
      obtain ⟨r1, r2, h1, h2, h3⟩ := eqCells_split k cs ds y (by simpa using hk) hy
      refine ⟨x && r1, r2, ?_, by simpa using h2, by rw [h3, Bool.and_assoc]⟩
      simp [eqCells, hx, h1]
    · cases h
theorem eqCells_length : ∀ (cs ds : List AV) (r : Bool), eqCells cs ds = some r → cs.length = ds.length
  | [], [], r, h => rfl
  | [], b :: ds, r, h => by simp [eqCells] at h
  | a :: cs, [], r, h => by simp [eqCells] at h
  | a :: cs, b :: ds, r, h => by
    simp only [eqCells] at h
    split at h
    · rename_i x y hx hy
      simp [eqCells_length cs ds y hy]
    · cases h

section
variable {P : Program} {Θ : TT} (hΘ : TTok P Θ) {w : World} {O : Nat → Prop} {μ : Mu}

theorem eq_fields (d : Nat) (S : TypeId → Option (List CK)) (X Y : Array Value)
    (ih : ∀ (t : TypeId) (ks : List CK), S t = some ks → ∀ (off : Nat) (cs ds : List AV) (r : Bool), fitL ks cs = true → fitL ks ds = true → CvL w O cs μ ((X.toList.drop off).take ks.length) → CvL w O ds μ ((Y.toList.drop off).take ks.length) → eqCells cs ds = some r →
      ∃ a b, (part t X off).run P w = .ok a w ∧ (part t Y off).run P w = .ok b w ∧ (Op.equalIn d t a b).run P w = .ok r w) :
    ∀ (fs : List Field) (off : Nat) (ks : List CK), flds S off fs = some ks → ∀ (cs ds : List AV) (r : Bool), fitL ks cs = true → fitL ks ds = true → CvL w O cs μ ((X.toList.drop off).take ks.length) → CvL w O ds μ ((Y.toList.drop off).take ks.length) → eqCells cs ds = some r →
      (Op.eqFields d X Y fs).run P w = .ok r w
  | [], off, ks, hf, cs, ds, r, hl, hl', hx, hy, he => by
    simp only [flds, Option.some.injEq] at hf
    subst hf
    obtain rfl := List.eq_nil_of_length_eq_zero (fitL_length hl)
    obtain rfl := List.eq_nil_of_length_eq_zero (fitL_length hl')
    simp only [eqCells, Option.some.injEq] at he
    subst he
    simp [Op.eqFields]
  | f :: fs, off, ks, hf, cs, ds, r, hl, hl', hx, hy, he => by
    simp only [flds] at hf
    cases hb : (Nat.beq f.offset off && (f.name != "_")) with
    | false => rw [hb] at hf; cases hf
    | true =>
      rw [hb] at hf
      simp only [cond_true] at hf
      simp only [Bool.and_eq_true, bne_iff_ne, ne_eq] at hb
      obtain ⟨h1, h2⟩ := hb
      have h1 := Nat.eq_of_beq_eq_true h1
      split at hf
      · rename_i l hs
        split at hf
        · rename_i k2 hs2
          injection hf with hf
          subst hf
          obtain ⟨f1, f2⟩ := fitL_append hl
          obtain ⟨f3, f4⟩ := fitL_append hl'
          have hcl := fitL_length hl
          simp only [List.length_append] at hcl hx hy
          obtain ⟨r1, r2, e1, e2, rfl⟩ := eqCells_split l.length cs ds r (by omega) he
          have tx := hx.take l.length
          have ty := hy.take l.length
          have dx := hx.drop l.length
          have dy := hy.drop l.length
          rw [List.take_take, Nat.min_eq_left (by omega)] at tx ty
          rw [List.drop_take, List.drop_drop, Nat.add_sub_cancel_left] at dx dy
          obtain ⟨a, b, pa, pb, pe⟩ := ih f.type l hs off _ _ r1 f1 f3 tx ty e1
          have hrest := eq_fields d S X Y ih fs (off + l.length) k2 hs2 _ _ r2 f2 f4 dx dy e2
          simp only [Op.eqFields, h2, ne_eq, not_false_eq_true, if_true, Sem.run_bind, h1, pa, pb, pe, Result.andThen_ok]
          cases r1
          · simp
          · simpa using hrest
        · cases hf
      · cases hf
theorem eq_part (hΘ : TTok P Θ) : ∀ (n : Nat) (t : TypeId) (ks : List CK), eqShape P Θ n t = some ks → ∀ (d : Nat), n ≤ d → ∀ (X Y : Array Value) (off : Nat) (cs ds : List AV) (r : Bool), fitL ks cs = true → fitL ks ds = true →
      CvL w O cs μ ((X.toList.drop off).take ks.length) → CvL w O ds μ ((Y.toList.drop off).take ks.length) → eqCells cs ds = some r →
      ∃ a b, (part t X off).run P w = .ok a w ∧ (part t Y off).run P w = .ok b w ∧ (Op.equalIn d t a b).run P w = .ok r w
  | 0, t, ks, h, d, hd, X, Y, off, cs, ds, r, hl, hl', hx, hy, he => by cases h
  | n + 1, t, ks, h, d, hd, X, Y, off, cs, ds, r, hl, hl', hx, hy, he => by
    obtain ⟨d, rfl⟩ : ∃ d', d = d' + 1 := ⟨d - 1, by omega⟩
    simp only [eqShape] at h
    have one : ∀ (k : CK) (cs : List AV) (X : Array Value), CvL w O cs μ ((X.toList.drop off).take 1) → fitL [k] cs = true → ∃ a v, cs = [a] ∧ X[off]? = some v ∧ Cv w O a μ v ∧ k.fit a = true := by
      intro k cs X hx hl
      match cs, hl with
      | [a], hl =>
        simp only [CvL] at hx
        obtain ⟨v, vs, e, h1, rfl⟩ := hx
        refine ⟨a, v, rfl, ?_, h1, by simpa [fitL] using hl⟩
        have : ((X.toList.drop off).take 1)[0]? = some v := by rw [e]; rfl
        rw [List.getElem?_take_of_lt (by omega), List.getElem?_drop] at this
        simpa using this
      | a :: b :: l, hl => simp [fitL] at hl
    cases hy0 : Θ t with
    | none => rw [hy0] at h; cases h
    | some y =>
      rw [hy0] at h
      simp only at h
      have hu := r_under hΘ hy0 w
      have ha := r_isAgg hΘ hy0 w
      have hz := r_size hΘ hy0 w
      have hus : P.underlying t = some y.d := by obtain ⟨i, h1, _⟩ := hΘ t y hy0; exact h1
      have scalar : ∀ k : CK, y.agg = false → ks = [k] → (∀ a b u v, eqC1 a b = some r → k.fit a = true → k.fit b = true → Cv w O a μ u → Cv w O b μ v → (Op.equalIn (d + 1) t u v).run P w = .ok r w) →
          ∃ a b, (part t X off).run P w = .ok a w ∧ (part t Y off).run P w = .ok b w ∧ (Op.equalIn (d + 1) t a b).run P w = .ok r w := by
        intro k h2 h3 h4
        subst h3
        obtain ⟨a, u, rfl, xu, cu, fa⟩ := one k cs X hx hl
        obtain ⟨b, v, rfl, yv, cv, fb⟩ := one k ds Y hy hl'
        refine ⟨u, v, ?_, ?_, h4 a b u v ?_ fa fb cu cv⟩
        · rw [h2] at ha; simp [part, ha, xu]
        · rw [h2] at ha; simp [part, ha, yv]
        · simp only [eqCells] at he
          split at he
          · rename_i p q hp hq
            rw [hp]
            injection hq with hq
            subst hq
            simpa using he
          · cases he
      split at h
      · rename_i k hd0
        cases hb : Nat.beq y.size 1 with
        | false => rw [hb] at h; cases h
        | true =>
          rw [hb] at h
          refine scalar (.i k) (by simp [Ty.agg, hd0]) (by simpa using h.symm) ?_
          intro a b u v hab fa fb hau hbv
          rw [hd0] at hus
          cases a <;> simp [CK.fit] at fa
          cases b <;> simp [CK.fit] at fb
          subst fa fb
          simp only [Cv] at hau hbv
          subst hau hbv
          simp [eqC1] at hab
          subst hab
          exact run_equalIn_int w d t _ _ _ _ hus
      · rename_i hd0
        cases hb : Nat.beq y.size 1 with
        | false => rw [hb] at h; cases h
        | true =>
          rw [hb] at h
          refine scalar .s (by simp [Ty.agg, hd0]) (by simpa using h.symm) ?_
          intro a b u v hab fa fb hau hbv
          rw [hd0] at hus
          cases a <;> simp [CK.fit] at fa
          cases b <;> simp [CK.fit] at fb
          simp only [Cv] at hau hbv
          simp [eqC1] at hab
          subst hab
          rw [hau.1, hbv.1, run_equalIn_string w d t _ _ hus, Lib.toList_data, Lib.toList_data]
      · rename_i hd0
        cases hb : Nat.beq y.size 1 with
        | false => rw [hb] at h; cases h
        | true =>
          rw [hb] at h
          refine scalar .b (by simp [Ty.agg, hd0]) (by simpa using h.symm) ?_
          intro a b u v hab fa fb hau hbv
          rw [hd0] at hus
          cases a <;> simp [CK.fit] at fa
          cases b <;> simp [CK.fit] at fb
          simp only [Cv] at hau hbv
          subst hau hbv
          simp [eqC1] at hab
          subst hab
          exact run_equalIn_bool' w d t _ _ hus
      · rename_i fs hd0
        cases hst : P.stoodInHeld t with
        | true => rw [hst] at h; cases h
        | false =>
          rw [hst] at h
          simp only [cond_false] at h
          split at h
          · rename_i m hm
            cases hb : Nat.beq m.length y.size with
            | false => rw [hb] at h; cases h
            | true =>
              rw [hb] at h
              simp only [cond_true, Option.some.injEq] at h
              subst h
              have hsz := Nat.eq_of_beq_eq_true hb
              have hagg : y.agg = true := by simp [Ty.agg, hd0]
              rw [hagg] at ha
              rw [hd0] at hus
              have hfo : P.fieldsOf t = fs := by simp [Program.fieldsOf, hus]
              have hext : ∀ (Z : Array Value), (Z.extract off (off + y.size)).toList = (Z.toList.drop off).take m.length := fun Z => by
                rw [Array.toList_extract, List.extract_eq_take_drop, hsz]
                congr 1
                omega
              refine ⟨.agg (X.extract off (off + y.size)), .agg (Y.extract off (off + y.size)), by simp [part, ha, hz], by simp [part, ha, hz], ?_⟩
              rw [run_equalIn_agg w d t _ _ (by rw [hfo]; exact hus) hst, hfo]
              refine eq_fields (w := w) (O := O) (μ := μ) d (eqShape P Θ n) _ _ (fun t' ks' hs off cs ds r a1 a2 a3 a4 a5 => eq_part hΘ n t' ks' hs d (by omega) _ _ off cs ds r a1 a2 a3 a4 a5) fs.toList 0 m hm cs ds r hl hl' ?_ ?_ he
              · rw [List.drop_zero, hext, List.take_take, Nat.min_self]; exact hx
              · rw [List.drop_zero, hext, List.take_take, Nat.min_self]; exact hy
          · cases h
      · cases h
end

structure EqOK (P : Program) (Θ : TT) (t : TypeId) (ks : List CK) : Prop where
  shape : eqShape P Θ 9 t = some ks
  guard : P.eqGuardType P.depth t = false
  agg : ∃ y fs, Θ t = some y ∧ y.d = .struct fs

section ops
variable {P : Program} {G : GlP} {Θ : TT} {o : Oper} {V : Operand → AV}
theorem tri_eqAgg (hΘ : TTok P Θ) (op : BinOp) (hop : op = .eql ∨ op = .neq) (t t' : TypeId) (x y : Operand) (ho : o.op = .binOp op t x y t') (ks : List CK) (hk : EqOK P Θ t ks) (cs ds : List AV) (hx : V x = .agg cs) (hy : V y = .agg ds)
    (h1 : fitL ks cs = true) (h2 : fitL ks ds = true) (r : Bool) (hr : eqCells cs ds = some r) : Tri P G o V [] (.bool (cond (match op with | .eql => true | _ => false) r (!r))) [] :=
  tri_pure fun E w μ Lf ρ C hf hv => by
    have hxv := hv x (by simp [ho, Op.operands])
    have hyv := hv y (by simp [ho, Op.operands])
    rw [hx] at hxv
    rw [hy] at hyv
    simp only [Cv] at hxv hyv
    obtain ⟨xs, hx1, hx2, _⟩ := hxv
    obtain ⟨ys, hy1, hy2, _⟩ := hyv
    obtain ⟨y0, fs, k1, k2⟩ := hk.agg
    have lx := hx2.length
    have ly := hy2.length
    have fx := fitL_length h1
    have fy := fitL_length h2
    obtain ⟨a, b, pa, pb, pe⟩ := eq_part (w := w) (O := E.O μ) (μ := μ) hΘ 9 t ks hk.shape 10000 (by omega) xs ys 0 cs ds r h1 h2
      (by rw [List.drop_zero, List.take_of_length_le (by omega)]; exact hx2) (by rw [List.drop_zero, List.take_of_length_le (by omega)]; exact hy2) hr
    have ha := r_isAgg hΘ k1 w
    have hz := r_size hΘ k1 w
    have hagg : y0.agg = true := by simp [Ty.agg, k2]
    rw [hagg] at ha
    have hsz : y0.size = ks.length := by
      have := hk.shape
      simp only [eqShape, k1, k2] at this
      cases hst : P.stoodInHeld t with
      | true => rw [hst] at this; cases this
      | false =>
        rw [hst] at this
        simp only [cond_false] at this
        split at this
        · rename_i m hm
          cases hb : Nat.beq m.length y0.size with
          | false => rw [hb] at this; cases this
          | true =>
            rw [hb] at this
            simp only [cond_true, Option.some.injEq] at this
            subst this
            exact (Nat.eq_of_beq_eq_true hb).symm
        · cases this
    have ex : ∀ (Z : Array Value), Z.toList.length = y0.size → Z.extract 0 (0 + y0.size) = Z := fun Z h => by
      simp at h
      simp [← h]
    simp only [part, Sem.run_bind, ha, Result.andThen_ok, if_true, hz, Sem.run_pure] at pa pb
    rw [ex xs (by omega)] at pa
    rw [ex ys (by omega)] at pb
    injection pa with pa
    injection pb with pb
    subst pa pb
    have hg : ∀ p q, (eqGuard op t p q (.agg xs) (.agg ys)).run P w = .ok () w := fun p q => run_eqGuard_agg w op t p q xs ys hk.guard
    refine ⟨_, ?_, by simp only [Cv]; rfl⟩
    rcases hop with rfl | rfl
    · simp [execOp, ho, hx1, hy1, hg, run_eql_struct, pe]
    · simp [execOp, ho, hx1, hy1, hg, run_neq_struct, pe]

/-! Comparisons with nil. -/
theorem tri_nil_slice (hΘ : TTok P Θ) (op : BinOp) (hop : op = .eql ∨ op = .neq) (t t' : TypeId) (x : Operand) (ho : o.op = .binOp op t x (.const (.slice none 0 0)) t') (y : Ty) (e : TypeId) (hy : Θ t = some y) (hd : y.d = .slice e)
    (hx : match V x with | .lst _ _ => True | .emp => True | .own _ _ => True | _ => False) : Tri P G o V [] .ub [] :=
  tri_pureC fun E w μ Lf ρ C hf hv hc => by
    have hxv := hv x (by simp [ho, Op.operands])
    have hus : P.underlying t = some y.d := by obtain ⟨i, h1, _⟩ := hΘ t y hy; exact h1
    rw [hd] at hus
    have hs : ∃ A n c, ρ x = .slice A n c := by
      split at hx
      · rename_i e; rw [e] at hxv; simp only [Cv] at hxv; obtain ⟨A, c, h, _⟩ := hxv; exact ⟨_, _, _, h⟩
      · rename_i e; rw [e] at hxv; simp only [Cv] at hxv; obtain ⟨A, h⟩ := hxv; exact ⟨_, _, _, h⟩
      · rename_i e; rw [e] at hxv; simp only [Cv] at hxv; obtain ⟨_, _, _, _, _, _, _, A, c, h⟩ := hxv; exact ⟨_, _, _, h⟩
      · exact hx.elim
    obtain ⟨A, n, c, hs⟩ := hs
    have he : (Op.equal t (.slice A n c) (.slice none 0 0)).run P w = .ok A.isNone w := by
      have hu := run_underlying hus w
      have hd : ∀ d, (Op.equalIn (d + 1) t (.slice A n c) (.slice none 0 0)).run P w = .ok A.isNone w := fun d => by cases A <;> simp [Op.equalIn, hu]
      exact hd 9999
    rcases hop with rfl | rfl
    · exact ⟨.bool A.isNone, by simp [execOp, ho, hs, hc, eqGuard, binOp, he], by simp [Cv]⟩
    · exact ⟨.bool (!A.isNone), by simp [execOp, ho, hs, hc, eqGuard, binOp, he], by simp [Cv]⟩
def isEq : BinOp → Bool
  | .eql => true
  | _ => false
theorem tri_nil_lst (hΘ : TTok P Θ) (op : BinOp) (hop : op = .eql ∨ op = .neq) (t t' : TypeId) (x : Operand) (ho : o.op = .binOp op t x (.const (.slice none 0 0)) t') (y : Ty) (e : TypeId) (hy : Θ t = some y) (hd : y.d = .slice e)
    (sz : Nat) (xs : List (List AV)) (hx : V x = .lst sz xs) (hne : xs ≠ []) : Tri P G o V [] (.bool (!isEq op)) [] :=
  tri_pureC fun E w μ Lf ρ C hf hv hc => by
    have hxv := hv x (by simp [ho, Op.operands])
    have hus : P.underlying t = some y.d := by obtain ⟨i, h1, _⟩ := hΘ t y hy; exact h1
    rw [hd] at hus
    rw [hx] at hxv
    simp only [Cv] at hxv
    obtain ⟨A, c, hs, _, _, h4⟩ := hxv
    rcases h4 with h4 | ⟨b, off, rfl, _⟩
    · exact absurd h4 hne
    have he : (Op.equal t (.slice (some ⟨b, off, none⟩) xs.length c) (.slice none 0 0)).run P w = .ok false w := by
      have hu := run_underlying hus w
      have hd : ∀ d, (Op.equalIn (d + 1) t (.slice (some ⟨b, off, none⟩) xs.length c) (.slice none 0 0)).run P w = .ok false w := fun d => by simp [Op.equalIn, hu]
      exact hd 9999
    rcases hop with rfl | rfl
    · exact ⟨.bool false, by simp [execOp, ho, hs, hc, eqGuard, binOp, he], by simp [Cv, isEq]⟩
    · exact ⟨.bool true, by simp [execOp, ho, hs, hc, eqGuard, binOp, he], by simp [Cv, isEq]⟩
def nilPtr : AV → Option Bool
  | .nilp => some true
  | .ref _ _ => some false
  | .pp _ => some false
  | .rp _ _ _ => some false
  | .gp _ => some false
  | _ => none
theorem tri_nil_ptr (hΘ : TTok P Θ) (op : BinOp) (hop : op = .eql ∨ op = .neq) (t t' : TypeId) (x y : Operand) (ho : o.op = .binOp op t x y t') (z : Ty) (e : TypeId) (hz : Θ t = some z) (hd : z.d = .pointer e)
    (hy : V y = .nilp) (b : Bool) (hb : nilPtr (V x) = some b) : Tri P G o V [] (.bool (cond (match op with | .eql => true | _ => false) b (!b))) [] :=
  tri_pure fun E w μ Lf ρ C hf hv => by
    have hxv := hv x (by simp [ho, Op.operands])
    have hyv := hv y (by simp [ho, Op.operands])
    rw [hy] at hyv
    simp only [Cv] at hyv
    have hus : P.underlying t = some z.d := by obtain ⟨i, h1, _⟩ := hΘ t z hz; exact h1
    rw [hd] at hus
    have hs : ∃ A, ρ x = .pointer A ∧ A.isNone = b := by
      unfold nilPtr at hb
      split at hb
      · rename_i e; rw [e] at hxv; simp only [Cv] at hxv; injection hb with hb; exact ⟨_, hxv, hb⟩
      · rename_i e; rw [e] at hxv; simp only [Cv] at hxv; obtain ⟨b, ob, _, h⟩ := hxv; injection hb with hb; exact ⟨_, h, hb⟩
      · rename_i e; rw [e] at hxv; simp only [Cv] at hxv; obtain ⟨b, ob, h, _⟩ := hxv; injection hb with hb; exact ⟨_, h, hb⟩
      · rename_i e; rw [e] at hxv; simp only [Cv] at hxv; obtain ⟨_, _, _, _, _, _, _, a, h⟩ := hxv; injection hb with hb; exact ⟨_, h, hb⟩
      · rename_i e; rw [e] at hxv; simp only [Cv] at hxv; injection hb with hb; exact ⟨_, hxv, hb⟩
      · cases hb
    obtain ⟨A, hs, hA⟩ := hs
    have he : (Op.equal t (.pointer A) (.pointer none)).run P w = .ok A.isNone w := by
      have hu := run_underlying hus w
      have hd : ∀ d, (Op.equalIn (d + 1) t (.pointer A) (.pointer none)).run P w = .ok A.isNone w := fun d => by cases A <;> simp [Op.equalIn, hu]
      exact hd 9999
    rcases hop with rfl | rfl
    · refine ⟨.bool A.isNone, ?_, by simp [Cv, hA]⟩
      simp [execOp, ho, hs, hyv, eqGuard, binOp, he]
    · refine ⟨.bool (!A.isNone), ?_, by simp [Cv, hA]⟩
      simp [execOp, ho, hs, hyv, eqGuard, binOp, he]

/-! Quotients; least and greatest. -/
theorem tri_quo (op : BinOp) (t t' : TypeId) (x y : Operand) (ho : o.op = .binOp op t x y t') (k : IntKind) (a b : Int) (hx : V x = .int k a) (hy : V y = .int k b) (hb : b ≠ 0) (c : Int)
    (hc : op = .quo ∧ k.wrap (a.tdiv b) = c ∨ op = .rem ∧ a.tmod b = c) : Tri P G o V [] (.int k c) [] :=
  tri_pure fun E w μ Lf ρ C hf hv => by
    have hxv := hv x (by simp [ho, Op.operands])
    have hyv := hv y (by simp [ho, Op.operands])
    rw [hx] at hxv
    rw [hy] at hyv
    simp only [Cv] at hxv hyv
    refine ⟨.int k c, ?_, by simp [Cv]⟩
    rcases hc with ⟨rfl, rfl⟩ | ⟨rfl, rfl⟩ <;> simp [execOp, ho, hxv, hyv, eqGuard, binOp, Op.intDiv, hb]
theorem bi_exec {P : Program} {o : Oper} {ρ : Operand → Value} {f : Value → Value → Sem Value} {bi : Builtin} {x y : Operand} {tys : Array TypeId} {w w' : World} {v : Value} (ho : o.op = .call { callee := .builtin bi, args := #[x, y], argTypes := tys })
    (hb : bi = .min ∧ f = Builtin.min2 ∨ bi = .max ∧ f = Builtin.max2) (h : (f (ρ x) (ρ y)).run P w = .ok v w') : (execOp ρ o).run P w = .ok (.value v) w' := by
  rcases hb with ⟨rfl, rfl⟩ | ⟨rfl, rfl⟩
  · simp only [execOp, ho, resolve, invoke, builtin, Sem.run_bind, Sem.run_pure, Result.andThen_ok, List.map_toArray, List.map_cons, List.map_nil, Builtin.min_, List.foldlM_cons, List.foldlM_nil, h]
  · simp only [execOp, ho, resolve, invoke, builtin, Sem.run_bind, Sem.run_pure, Result.andThen_ok, List.map_toArray, List.map_cons, List.map_nil, Builtin.max_, List.foldlM_cons, List.foldlM_nil, h]
theorem tri_minmax (bi : Builtin) (x y : Operand) (tys : Array TypeId) (ho : o.op = .call { callee := .builtin bi, args := #[x, y], argTypes := tys }) (k : IntKind) (a b : Int) (hx : V x = .int k a) (hy : V y = .int k b) (c : Int)
    (hc : bi = .min ∧ min a b = c ∨ bi = .max ∧ max a b = c) : Tri P G o V [] (.int k c) [] :=
  tri_pure fun E w μ Lf ρ C hf hv => by
    have hxv := hv x (by simp [ho, Op.operands, Call.operands])
    have hyv := hv y (by simp [ho, Op.operands, Call.operands])
    rw [hx] at hxv
    rw [hy] at hyv
    simp only [Cv] at hxv hyv
    refine ⟨.int k c, ?_, by simp [Cv]⟩
    rcases hc with ⟨rfl, rfl⟩ | ⟨rfl, rfl⟩
    · refine bi_exec ho (.inl ⟨rfl, rfl⟩) ?_
      rw [hxv, hyv]
      simp only [Builtin.min2, Sem.run_pure]
      congr 2
      split <;> omega
    · refine bi_exec ho (.inr ⟨rfl, rfl⟩) ?_
      rw [hxv, hyv]
      simp only [Builtin.max2, Sem.run_pure]
      congr 2
      split <;> omega

/-! Cuts of slices. -/
theorem bound_run {P : Program} {w : World} {k : IntKind} {a m : Nat} {c : BoundsCode} (h : a ≤ m) : (Instr.sliceBound (.int k (a : Int)) m c).run P w = .ok a w := by
  have h1 : (a : Int) ≤ (m : Int) := by omega
  have h0 : (0 : Int) ≤ a := by omega
  simp [Instr.sliceBound, asIntOf, h1, h0]
def bdOK (V : Operand → AV) (q : Option Operand) (dflt a : Nat) : Prop := match q with | none => a = dflt | some q => ∃ k, V q = .int k a
theorem bdOK.run {V : Operand → AV} {ρ : Operand → Value} {w : World} {O : Nat → Prop} {μ : Mu} {q : Option Operand} {dflt a : Nat} (h : bdOK V q dflt a) (hv : ∀ x, q = some x → Cv w O (V x) μ (ρ x)) : (q = none ∧ a = dflt) ∨ ∃ x k, q = some x ∧ ρ x = .int k (a : Int) := by
  cases q with
  | none => exact .inl ⟨rfl, h⟩
  | some x =>
    obtain ⟨k, hk⟩ := h
    have := hv x rfl
    rw [hk] at this
    simp only [Cv] at this
    exact .inr ⟨x, k, rfl, this⟩
theorem tri_slice_lst (hΘ : TTok P Θ) (t : TypeId) (x : Operand) (lo hi : Option Operand) (ho : o.op = .slice t x lo hi none) (y z : Ty) (e : TypeId) (hy : Θ t = some y) (hd : y.d = .slice e) (hz : Θ e = some z)
    (sz : Nat) (hsz : z.size = sz) (xs : List (List AV)) (hx : V x = .lst sz xs) (a b : Nat) (ha : bdOK V lo 0 a) (hb : bdOK V hi xs.length b) (hab : a ≤ b) (hbs : b ≤ xs.length) :
    Tri P G o V [] (.lst sz ((xs.take b).drop a)) [] :=
  tri_pure fun E w μ Lf ρ C hf hv => by
    have hxv := hv x (by simp [ho, Op.operands])
    rw [hx] at hxv
    simp only [Cv] at hxv
    obtain ⟨A, cap, h1, h2, h3, h4⟩ := hxv
    have hu := r_under hΘ hy w
    rw [hd] at hu
    have hs := r_size hΘ hz w
    have hlo := ha.run (ρ := ρ) (w := w) (O := E.O μ) (μ := μ) fun q hq => hv q (by simp [ho, Op.operands, hq])
    have hhi := hb.run (ρ := ρ) (w := w) (O := E.O μ) (μ := μ) fun q hq => hv q (by simp [ho, Op.operands, hq])
    have hbnd : (Instr.sliceBounds true xs.length cap (lo.map ρ) (hi.map ρ) none).run P w = .ok (a, b, cap) w := by
      rcases hlo with ⟨rfl, rfl⟩ | ⟨p, j, rfl, hp⟩ <;> rcases hhi with ⟨rfl, rfl⟩ | ⟨q, k, rfl, hq⟩
      · simp [Instr.sliceBounds]
      · simp only [Instr.sliceBounds, Option.map_some, Option.map_none, hq, Sem.run_bind, Sem.run_pure, Result.andThen_ok, bound_run (show b ≤ cap by omega)]
      · simp only [Instr.sliceBounds, Option.map_some, Option.map_none, hp, Sem.run_bind, Sem.run_pure, Result.andThen_ok, bound_run hab]
      · simp only [Instr.sliceBounds, Option.map_some, hp, hq, Sem.run_bind, Sem.run_pure, Result.andThen_ok, bound_run (show b ≤ cap by omega), bound_run hab]
    have hlen : ((xs.take b).drop a).length = b - a := by simp; omega
    refine ⟨.slice (if cap = a then A else A.map (·.add (a * z.size))) (b - a) (cap - a), ?_, ?_⟩
    · simp only [execOp, ho, h1, Instr.sliceAt, Sem.run_bind, hu, Result.andThen_ok, Instr.slice, Option.map_none, hbnd, hs, Sem.run_pure]
    · simp only [Cv]
      refine ⟨_, _, by rw [hlen], by omega, by omega, ?_⟩
      rcases h4 with rfl | ⟨bb, off, rfl, g1, g2, g3⟩
      · exact .inl (by simp)
      · by_cases hca : cap = a
        · exact .inl (List.eq_nil_of_length_eq_zero (by omega))
        · refine .inr ⟨bb, off + a * sz, ?_, g1, g2, CvR.of_get fun i c hi => ?_⟩
          · rw [if_neg hca, hsz]
            simp [add_none]
          · have hi' : xs[a + i]? = some c := by
              rw [List.getElem?_drop, List.getElem?_take] at hi
              split at hi
              · exact hi
              · cases hi
            have := g3.get (a + i) c hi'
            rw [Nat.add_mul, ← Nat.add_assoc] at this
            exact this
theorem tri_slice_zero (hΘ : TTok P Θ) (t : TypeId) (x q1 q2 : Operand) (lo : Option Operand) (ho : o.op = .slice t x lo (some q1) (some q2)) (y z : Ty) (e : TypeId) (hy : Θ t = some y) (hd : y.d = .slice e) (hz : Θ e = some z)
    (hx : match V x with | .lst _ _ => True | .emp => True | .own _ _ => True | _ => False) (hlo : bdOK V lo 0 0) (k1 k2 : IntKind) (h1 : V q1 = .int k1 0) (h2 : V q2 = .int k2 0) : Tri P G o V [] .emp [] :=
  tri_pure fun E w μ Lf ρ C hf hv => by
    have hxv := hv x (by simp [ho, Op.operands])
    have hs : ∃ A n c, ρ x = .slice A n c := by
      split at hx
      · rename_i e; rw [e] at hxv; simp only [Cv] at hxv; obtain ⟨A, c, h, _⟩ := hxv; exact ⟨_, _, _, h⟩
      · rename_i e; rw [e] at hxv; simp only [Cv] at hxv; obtain ⟨A, h⟩ := hxv; exact ⟨_, _, _, h⟩
      · rename_i e; rw [e] at hxv; simp only [Cv] at hxv; obtain ⟨_, _, _, _, _, _, _, A, c, h⟩ := hxv; exact ⟨_, _, _, h⟩
      · exact hx.elim
    obtain ⟨A, n, c, hs⟩ := hs
    have hu := r_under hΘ hy w
    rw [hd] at hu
    have hsz := r_size hΘ hz w
    have g1 := hv q1 (by simp [ho, Op.operands])
    have g2 := hv q2 (by simp [ho, Op.operands])
    rw [h1] at g1
    rw [h2] at g2
    simp only [Cv] at g1 g2
    have hl := hlo.run (ρ := ρ) (w := w) (O := E.O μ) (μ := μ) fun q hq => hv q (by simp [ho, Op.operands, hq])
    have z0 : ∀ (k : IntKind) (m : Nat) (c : BoundsCode), (Instr.sliceBound (.int k 0) m c).run P w = .ok 0 w := fun k m c => bound_run (a := 0) (Nat.zero_le m)
    have hbnd : (Instr.sliceBounds true n c (lo.map ρ) (some (ρ q1)) (some (ρ q2))).run P w = .ok (0, 0, 0) w := by
      rcases hl with ⟨rfl, _⟩ | ⟨p, j, rfl, hp⟩
      · simp [Instr.sliceBounds, g1, g2, z0]
      · simp only [Int.natCast_zero] at hp
        simp [Instr.sliceBounds, g1, g2, hp, z0]
    refine ⟨.slice A 0 0, ?_, by simp only [Cv]; exact ⟨A, rfl⟩⟩
    simp only [execOp, ho, hs, Instr.sliceAt, Sem.run_bind, hu, Result.andThen_ok, Instr.slice, Option.map_some, hbnd, hsz, Sem.run_pure]
    simp
end ops
end Go.Ab
/- The framework of abstract states, a part more: cells of rows; maps. -/
set_option linter.unusedVariables false
set_option linter.unusedSimpArgs false
namespace Go.Ab

section ops
variable {P : Program} {G : GlP} {Θ : TT} {o : Oper} {V : Operand → AV}

theorem row_cells {E : Env} {w : World} {μ : Mu} {Lf : Lbl → Option ABox} (C : Core G E w μ Lf) {l : Lbl} {e : TypeId} {sz : Nat} {xs : List (List AV)} (hl : Lf l = some (.row e sz xs)) {n k : Nat} (hn : xs.length = n) (h0 : 0 < n) {v : Value}
    (hv : Cv w (E.O μ) (.rp l n k) μ v) : ∃ b vs sp cap, v = .pointer (some ⟨b, k, none⟩) ∧ μ l = some (.slice (some ⟨b, 0, none⟩) n cap, some b) ∧ w.heap[b]? = some (.cells (vs ++ sp).toArray e (0, 0)) ∧ CvL w (E.O μ) xs.flatten μ vs ∧ allOne xs.flatten ∧
      n ≤ cap ∧ cap ≤ maxLen ∧ (vs ++ sp).length = cap * sz ∧ (∀ x ∈ xs, x.length = sz) := by
  simp only [Cv] at hv
  obtain ⟨A, m, cap, ob, h1, h2, h3, h4⟩ := hv
  obtain ⟨v', ob', g1, A', cap', vs, rfl, g2, g3, g4, g5, g6⟩ := C.box l _ hl
  rw [h1] at g1
  injection g1 with g1
  injection g1 with g1 g1'
  injection g1 with e1 e2 e3
  subst e1 e2 e3 g1'
  obtain ⟨b, rfl, rfl⟩ := h3 hn
  rcases g6 with ⟨rfl, rfl⟩ | ⟨b', sp, rfl, hb, g7, g8⟩
  · omega
  · injection hb with hb
    injection hb with hb
    subst hb
    rw [hn] at h1 g2
    exact ⟨b, vs, sp, cap, rfl, h1, g7, g5.1, g5.2, g2, g3, g8, g4⟩

theorem tri_load_rp (hΘ : TTok P Θ) (t : TypeId) (y : Ty) (x : Operand) (ho : o.op = .load t x) (hy : Θ t = some y) (l : Lbl) (n off : Nat) (hx : V x = .rp l n off) (e : TypeId) (sz : Nat) (xs : List (List AV)) (hn : xs.length = n) (h0 : 0 < n) (r : AV)
    (hr : takeV y (xs.flatten.drop off) = some r) : Tri P G o V [(l, .row e sz xs)] r [] :=
  tri_pure fun E w μ Lf ρ C hf hv => by
    have h := hv x (by simp [ho, Op.operands])
    rw [hx] at h
    obtain ⟨b, vs, sp, cap, h2, h1, h4, h5, h6, _⟩ := row_cells C (hf l _ getL_one) hn h0 h
    obtain ⟨v, hv1, hv2⟩ := load_run hΘ hy (b := b) (off := off) (h5.drop off) (h6.drop off) (fun j u hj => by
      simp only [World.cell?, h4]
      have hlt : off + j < vs.length := by
        rw [List.getElem?_drop] at hj
        exact (List.getElem?_eq_some_iff.1 hj).1
      simp only [List.getElem?_toArray]
      rw [List.getElem?_append_left hlt]
      simpa using hj) hr
    refine ⟨v, ?_, hv2⟩
    simp only [execOp, ho, h2, Instr.loadAt, Instr.sureAddr, Sem.run_bind, hv1]
    simp [hv1]

theorem tri_store_rp (hΘ : TTok P Θ) (t : TypeId) (y : Ty) (x v : Operand) (ho : o.op = .store t x v) (hy : Θ t = some y) (l : Lbl) (n off : Nat) (hx : V x = .rp l n off) (e : TypeId) (sz : Nat) (xs : List (List AV)) (hn : xs.length = n) (h0 : 0 < n) (vs : List AV)
    (hv : cellsOf (V v) = some vs) (hlen : vs.length = y.size) (hfit : off + y.size ≤ xs.flatten.length) (zs : List (List AV)) (hz : zs.flatten = spliceL xs.flatten off vs) (hzl : zs.length = xs.length) (hzs : ∀ z ∈ zs, z.length = sz) :
    Tri P G o V [(l, .row e sz xs)] (.tup []) [(l, .row e sz zs)] := by
  intro E w μ Lf ρ C hf hg hV _
  have hxv := hV x (by simp [ho, Op.operands])
  rw [hx] at hxv
  obtain ⟨b, us, sp, cap, h2, h1, h4, h5, h6, h7, h8, h9, h10⟩ := row_cells C (hf l _ getL_one) hn h0 hxv
  obtain ⟨c1, c2⟩ := cellsOf_spec hv (hV v (by simp [ho, Op.operands]))
  have hcl := h5.length
  have hvl := c1.length
  have hrun := storeVar_run hΘ hy h4 (v := ρ v) (off := off) (by simp at hvl; omega) (by simp; omega) (c1.oneCell c2)
  have hr : (execOp ρ o).run P w = .ok .skip (w.setRow b ((us ++ sp).take off ++ (ρ v).cells.toList ++ (us ++ sp).drop (off + (ρ v).cells.toList.length)).toArray) := by
    simp only [execOp, ho, h2, Instr.storeAt, Instr.sureAddr, Sem.run_bind]
    simp [hrun]
  have hsplit : (us ++ sp).take off ++ (ρ v).cells.toList ++ (us ++ sp).drop (off + (ρ v).cells.toList.length) = (us.take off ++ (ρ v).cells.toList ++ us.drop (off + (ρ v).cells.toList.length)) ++ sp := by
    rw [List.take_append_of_le_length (by omega), List.drop_append_of_le_length (by simp at hvl ⊢; omega)]
    simp
  have hnew : CvL w (E.O μ) zs.flatten μ (us.take off ++ (ρ v).cells.toList ++ us.drop (off + (ρ v).cells.toList.length)) := by
    rw [hz, spliceL, ← hvl]
    exact ((h5.take off).append c1).append (h5.drop _)
  have hone : allOne zs.flatten := by
    rw [hz, spliceL]
    exact ((h6.take off).append c2).append (h6.drop _)
  unfold OpGives
  rw [hr]
  have := C.setBox (w' := w.setRow b ((us ++ sp).take off ++ (ρ v).cells.toList ++ (us ++ sp).drop (off + (ρ v).cells.toList.length)).toArray) l _ _ h1 (.slice (some ⟨b, 0, none⟩) n cap) (some b) (kp.refl _) (.row e sz zs)
    (by rw [setRow_size]; exact Nat.le_refl _) rfl rfl rfl (fun k hk hne => setRow_heap_other w b _ k (fun e => hne (by rw [e]))) (fun k hk => .inl hk)
    (fun O' μ' hla hk => by
      refine ⟨_, cap, us.take off ++ (ρ v).cells.toList ++ us.drop (off + (ρ v).cells.toList.length), by rw [hzl, hn], by omega, h8, hzs, ⟨hnew.mono hla _ hk, hone⟩, .inr ⟨b, sp, rfl, rfl, ?_, ?_⟩⟩
      · rw [setRow_heap_same w b _ _ _ _ h4, hsplit]
      · rw [← h9, ← hsplit]
        have := c1.length
        simp only [List.length_append, List.length_take, List.length_drop]
        simp at hvl
        omega)
  exact ⟨_, this.1, this.2.1, this.2.2, by simp only [Cv]; exact ⟨_, rfl, by simp [CvL]⟩⟩

/-- The cells of a row's element. -/
theorem flat_drop {sz : Nat} : ∀ {xs : List (List AV)} {i : Nat} {c : List AV} (k : Nat), (∀ x ∈ xs, x.length = sz) → xs[i]? = some c → k ≤ sz → xs.flatten.drop (i * sz + k) = c.drop k ++ (xs.drop (i + 1)).flatten
  | [], i, c, k, h, hi, hk => by simp at hi
  | x :: xs, 0, c, k, h, hi, hk => by
    simp at hi
    subst hi
    have := h x List.mem_cons_self
    simp only [List.flatten_cons, Nat.zero_mul, Nat.zero_add, List.drop_succ_cons, List.drop_zero]
    exact List.drop_append_of_le_length (by omega)
  | x :: xs, i + 1, c, k, h, hi, hk => by
    have hx := h x List.mem_cons_self
    have := flat_drop (xs := xs) (i := i) (c := c) k (fun y hy => h y (List.mem_cons_of_mem _ hy)) (by simpa using hi) hk
    simp only [List.flatten_cons, List.drop_succ_cons]
    rw [Nat.add_mul, List.drop_append, List.drop_of_length_le (by omega), List.nil_append]
    rw [show i * sz + 1 * sz + k - x.length = i * sz + k from by omega]
    exact this
theorem flat_splice {sz : Nat} : ∀ {xs : List (List AV)} {i : Nat} {c : List AV} (k : Nat) (vs : List AV), (∀ x ∈ xs, x.length = sz) → xs[i]? = some c → k + vs.length ≤ sz → (xs.set i (spliceL c k vs)).flatten = spliceL xs.flatten (i * sz + k) vs
  | [], i, c, k, vs, h, hi, hk => by simp at hi
  | x :: xs, 0, c, k, vs, h, hi, hk => by
    simp at hi
    subst hi
    have hx := h x List.mem_cons_self
    simp only [List.set_cons_zero, List.flatten_cons, spliceL, Nat.zero_mul, Nat.zero_add]
    rw [List.take_append_of_le_length (by omega), List.drop_append_of_le_length (by omega)]
    simp
  | x :: xs, i + 1, c, k, vs, h, hi, hk => by
    have hx := h x List.mem_cons_self
    have hc : c.length = sz := h c (List.mem_of_getElem? hi)
    have := flat_splice (xs := xs) (i := i) (c := c) k vs (fun y hy => h y (List.mem_cons_of_mem _ hy)) (by simpa using hi) hk
    rw [List.set_cons_succ, List.flatten_cons, this, List.flatten_cons]
    unfold spliceL
    rw [Nat.add_mul, Nat.one_mul, List.take_append, List.drop_append, List.take_of_length_le (show x.length ≤ i * sz + sz + k by omega), List.drop_of_length_le (show x.length ≤ i * sz + sz + k + vs.length by omega)]
    rw [show i * sz + sz + k - x.length = i * sz + k from by omega, show i * sz + sz + k + vs.length - x.length = i * sz + k + vs.length from by omega]
    simp

/-! An element of an array in a box. -/
theorem tri_indexAddr_arr (hΘ : TTok P Θ) (t : TypeId) (x ix : Operand) (ho : o.op = .indexAddr t x ix) (y z : Ty) (n : Nat) (e : TypeId) (hy : Θ t = some y) (hd : y.d = .array n e) (hz : Θ e = some z)
    (l : Lbl) (off : Nat) (hx : V x = .ref l off) (k : IntKind) (i : Nat) (hi : V ix = .int k i) (hlt : i < n) : Tri P G o V [] (.ref l (off + i * z.size)) [] :=
  tri_pure fun E w μ Lf ρ C hf hv => by
    have hxv := hv x (by simp [ho, Op.operands])
    have hiv := hv ix (by simp [ho, Op.operands])
    rw [hx] at hxv
    rw [hi] at hiv
    simp only [Cv] at hxv hiv
    obtain ⟨b, ob, h1, h2⟩ := hxv
    have hu := r_under hΘ hy w
    rw [hd] at hu
    have hs := r_size hΘ hz w
    refine ⟨.pointer (some ⟨b, off + i * z.size, none⟩), ?_, by simp only [Cv]; exact ⟨b, ob, h1, rfl⟩⟩
    have hin : (0 : Int) ≤ i ∧ (i : Int) < (n : Int) := ⟨by omega, by omega⟩
    simp only [execOp, ho, h2, hiv, Instr.indexAt, Sem.run_bind, asIntOf, hu, Sem.run_pure, Result.andThen_ok]
    have hsa : ∀ (a : Addr) (w : World), (Instr.sureAddr (.pointer (some a))).run P w = .ok a w := fun _ _ => by simp [Instr.sureAddr]
    have hlt2 : (i : Int) < (n : Int) := hin.2
    simp [hlt, hs, add_none, hsa, hu]

/-! Maps by strings. -/
def keyIdx (s : Str) : List (AV × AV) → Nat → Option (Option Nat)
  | [], _ => some none
  | (.str t, _) :: r, i => cond (s == t) (some (some i)) (keyIdx s r (i + 1))
  | _, _ => none

theorem tri_makeMap (t : TypeId) (ho : o.op = .makeMap t none) (l : Lbl) : Tri P G o V [] (.mp l) [(l, .dmap [])] := by
  intro E w μ Lf ρ C hf hg hv _
  have hr : (execOp ρ o).run P w = .ok (.value (.map (some w.heap.size))) (w.alloc (.map #[] 0)) := by
    simp [execOp, ho, Instr.makeMap]
  have := C.newBox (w' := w.alloc (.map #[] 0)) l (fresh_one hg) (.map (some w.heap.size)) (some w.heap.size) (.dmap []) (by rw [heap_alloc_size]; omega) rfl rfl rfl
    (fun b hb => heap_alloc w _ b hb) (fun b hb => by injection hb with hb; subst hb; rw [heap_alloc_size]; omega)
    (fun O' μ' hla hk => ⟨w.heap.size, #[], rfl, rfl, heap_alloc_self w _, fun i e h => by simp at h, by simp [CvL], by simp [CvL]⟩)
  unfold OpGives
  rw [hr]
  exact ⟨_, this.1, this.2.1, this.2.2, by simp only [Cv]; exact ⟨_, _, rfl, updM_same _ _ _⟩⟩

theorem find_now {w : World} {O : Nat → Prop} {μ : Mu} (s : Str) : ∀ (es : List (AV × AV)) (ents : List MapEntry) (k : Nat) (r : Option Nat), keyIdx s es k = some r → CvL w O (es.map (·.1)) μ (ents.map (·.key)) → CvL w O (es.map (·.2)) μ (ents.map (·.val)) →
    ∃ f, Instr.findNow .string (.string ⟨s.toArray⟩) ents k = some f ∧ match r with
      | none => f = none
      | some i => k ≤ i ∧ ∃ e p, ents[i - k]? = some e ∧ es[i - k]? = some p ∧ f = some (i, e.val) ∧ Cv w O p.2 μ e.val
  | [], ents, k, r, hk, h1, h2 => by
    simp only [keyIdx, Option.some.injEq] at hk
    subst hk
    cases ents with
    | nil => exact ⟨none, by simp [Instr.findNow], rfl⟩
    | cons e l => simp [CvL] at h1
  | p :: es, [], k, r, hk, h1, h2 => by simp [CvL] at h1
  | p :: es, e :: ents, k, r, hk, h1, h2 => by
    obtain ⟨pk, pv⟩ := p
    simp only [List.map_cons, CvL] at h1 h2
    obtain ⟨x, xs, hx, h3, h4⟩ := h1
    obtain ⟨y, ys, hy, h5, h6⟩ := h2
    injection hx with hx1 hx2
    injection hy with hy1 hy2
    subst hx1 hx2 hy1 hy2
    cases pk with
    | str t =>
      simp only [keyIdx] at hk
      simp only [Cv] at h3
      have hs : Instr.sameNow .string (.string ⟨s.toArray⟩) e.key = some (s == t) := by
        rw [h3.1]
        simp only [Instr.sameNow, beq_toListBytes, Lib.toList_data]
      cases hb : s == t with
      | true =>
        rw [hb] at hk hs
        simp only [cond_true, Option.some.injEq] at hk
        subst hk
        refine ⟨some (k, e.val), by simp [Instr.findNow, hs], Nat.le_refl _, e, (.str t, pv), ?_, ?_, rfl, h5⟩ <;> simp
      | false =>
        rw [hb] at hk hs
        simp only [cond_false] at hk
        obtain ⟨f, g1, g2⟩ := find_now s es ents (k + 1) r hk h4 h6
        refine ⟨f, by simp [Instr.findNow, hs, g1], ?_⟩
        cases r with
        | none => exact g2
        | some i =>
          obtain ⟨g3, e', p', g4, g5, g6, g7⟩ := g2
          refine ⟨by omega, e', p', ?_, ?_, g6, g7⟩
          · rw [show i - k = (i - (k + 1)) + 1 from by omega]; simpa using g4
          · rw [show i - k = (i - (k + 1)) + 1 from by omega]; simpa using g5
    | _ => simp [keyIdx] at hk

theorem map_box {E : Env} {w : World} {μ : Mu} {Lf : Lbl → Option ABox} (C : Core G E w μ Lf) {l : Lbl} {es : List (AV × AV)} (hl : Lf l = some (.dmap es)) {v : Value} (hv : Cv w (E.O μ) (.mp l) μ v) :
    ∃ r ents, v = .map (some r) ∧ μ l = some (v, some r) ∧ w.heap[r]? = some (.map ents es.length) ∧ (∀ (i : Nat) (e : MapEntry), ents[i]? = some e → e.born = i) ∧ CvL w (E.O μ) (es.map (·.1)) μ (ents.toList.map (·.key)) ∧ CvL w (E.O μ) (es.map (·.2)) μ (ents.toList.map (·.val)) := by
  simp only [Cv] at hv
  obtain ⟨r, ob, rfl, h1⟩ := hv
  obtain ⟨v', ob', g1, r', ents, rfl, rfl, g2, g3, g4, g5⟩ := C.box l _ hl
  rw [h1] at g1
  injection g1 with g1
  injection g1 with g1 g1'
  injection g1 with g1
  injection g1 with g1
  subst g1
  exact ⟨r, ents, rfl, by rw [h1, g1'], g2, g3, g4, g5⟩

theorem tri_lookup (hΘ : TTok P Θ) (t : TypeId) (x k : Operand) (ho : o.op = .lookup t x k true) (y yk ye : Ty) (kt et : TypeId) (hy : Θ t = some y) (hd : y.d = .map kt et) (hk : Θ kt = some yk) (hkd : yk.d = .string) (he : Θ et = some ye)
    (l : Lbl) (es : List (AV × AV)) (hx : V x = .mp l) (s : Str) (hs : V k = .str s) (r : Option Nat) (hr : keyIdx s es 0 = some r) (a : AV) (ha : match r with | none => ofValue ye.zero = a | some i => ∃ p, es[i]? = some p ∧ p.2 = a) :
    Tri P G o V [(l, .dmap es)] (.tup [a, .bool r.isSome]) [] :=
  tri_pure fun E w μ Lf ρ C hf hv => by
    have hxv := hv x (by simp [ho, Op.operands])
    have hkv := hv k (by simp [ho, Op.operands])
    rw [hx] at hxv
    rw [hs] at hkv
    obtain ⟨m, ents, h1, h2, h3, h4, h5, h6⟩ := map_box C (hf l _ getL_one) hxv
    simp only [Cv] at hkv
    obtain ⟨f, g1, g2⟩ := find_now s es ents.toList 0 r hr h5 h6
    have hu := r_under hΘ hy w
    rw [hd] at hu
    have huk : P.underlying kt = some .string := by obtain ⟨i, q, _⟩ := hΘ kt yk hk; rw [q, hkd]
    have hze := r_zero hΘ he w
    have hg := Go.MapKept.run_getObj_map (P := P) h3
    have hck : ∀ b, (Instr.checkKey b 10000 kt (.string ⟨s.toArray⟩)).run P w = .ok () w := fun b => by
      unfold Instr.checkKey
      simp only [Sem.run_bind, run_underlying huk, Result.andThen]
      rfl
    have hfk : (Instr.findKey kt (.string ⟨s.toArray⟩) ents.toList).run P w = .ok f w := Go.MapKept.run_findKey huk g1
    cases r with
    | none =>
      simp only at g2 ha
      subst g2 ha
      refine ⟨.tuple #[ye.zero, .bool false], ?_, ?_⟩
      · simp only [execOp, ho, h1, hkv.1, Instr.lookup, Sem.run_bind, hu, Result.andThen_ok, hg, hck, hfk, hze, Sem.run_pure]
        rfl
      · simp only [Cv]
        refine ⟨_, rfl, ?_⟩
        simp only [CvL]
        exact ⟨_, _, rfl, Cv.ofValue _ _ _ _, _, _, rfl, by simp [Cv], rfl⟩
    | some i =>
      simp only at g2 ha
      obtain ⟨_, e, p, q1, q2, rfl, q3⟩ := g2
      obtain ⟨p', q4, rfl⟩ := ha
      rw [Nat.sub_zero] at q2
      rw [q2] at q4
      injection q4 with q4
      subst q4
      refine ⟨.tuple #[e.val, .bool true], ?_, ?_⟩
      · simp only [execOp, ho, h1, hkv.1, Instr.lookup, Sem.run_bind, hu, Result.andThen_ok, hg, hck, hfk, Sem.run_pure]
        rfl
      · simp only [Cv]
        refine ⟨_, rfl, ?_⟩
        simp only [CvL]
        exact ⟨_, _, rfl, q3, _, _, rfl, by simp [Cv], rfl⟩

theorem set_heap (w : World) (r : Nat) (o : Obj) : ({ w with heap := w.heap.setIfInBounds r o } : World).heap.size = w.heap.size := by simp

theorem tri_mapEntry (hΘ : TTok P Θ) (t : TypeId) (x k : Operand) (ho : o.op = .mapEntry t x k) (y yk ye : Ty) (kt et : TypeId) (hy : Θ t = some y) (hd : y.d = .map kt et) (hk : Θ kt = some yk) (hkd : yk.d = .string) (he : Θ et = some ye)
    (l : Lbl) (es : List (AV × AV)) (hx : V x = .mp l) (s : Str) (hs : V k = .str s) (hr : keyIdx s es 0 = some none) :
    Tri P G o V [(l, .dmap es)] (.tup [ofValue ye.zero, .int .i64 es.length]) [(l, .dmap (es ++ [(.str s, ofValue ye.zero)]))] := by
  intro E w μ Lf ρ C hf hg hv _
  have hxv := hv x (by simp [ho, Op.operands])
  have hkv := hv k (by simp [ho, Op.operands])
  rw [hx] at hxv
  rw [hs] at hkv
  obtain ⟨m, ents, h1, h2, h3, h4, h5, h6⟩ := map_box C (hf l _ getL_one) hxv
  have hkv' := hkv
  simp only [Cv] at hkv
  obtain ⟨f, g1, g2⟩ := find_now s es ents.toList 0 none hr h5 h6
  simp only at g2
  subst g2
  have hu := r_under hΘ hy w
  rw [hd] at hu
  have huk : P.underlying kt = some .string := by obtain ⟨i, q, _⟩ := hΘ kt yk hk; rw [q, hkd]
  have hze := r_zero hΘ he w
  have hgo := Go.MapKept.run_getObj_map (P := P) h3
  have hck : ∀ b, (Instr.checkKey b 10000 kt (.string ⟨s.toArray⟩)).run P w = .ok () w := fun b => by
    unfold Instr.checkKey
    simp only [Sem.run_bind, run_underlying huk, Result.andThen]
    rfl
  have hfk : (Instr.findKey kt (.string ⟨s.toArray⟩) ents.toList).run P w = .ok none w := Go.MapKept.run_findKey huk g1
  have hst := Go.MapKept.run_setObj_map (P := P) (.map (ents.push { key := .string ⟨s.toArray⟩, val := ye.zero, born := es.length }) (es.length + 1)) h3
  have hrun : (execOp ρ o).run P w = .ok (.value (.tuple #[ye.zero, goInt es.length])) { w with heap := w.heap.setIfInBounds m (.map (ents.push { key := .string ⟨s.toArray⟩, val := ye.zero, born := es.length }) (es.length + 1)) } := by
    simp only [execOp, ho, h1, hkv.1, Instr.mapEntry, Sem.run_bind, hu, Result.andThen_ok, hgo, hck, hfk, hze, hst, Sem.run_pure]
    try rfl
  have hel : ents.size = es.length := by have := h5.length; simpa using this
  have hh := Go.MapKept.heap_set (o' := .map (ents.push { key := .string ⟨s.toArray⟩, val := ye.zero, born := es.length }) (es.length + 1)) h3
  have := C.setBox (w' := { w with heap := w.heap.setIfInBounds m (.map (ents.push { key := .string ⟨s.toArray⟩, val := ye.zero, born := es.length }) (es.length + 1)) }) l _ _ h2 (ρ x) (some m) (kp.refl _) (.dmap (es ++ [(.str s, ofValue ye.zero)]))
    (by simp) rfl rfl rfl (fun b hb hne => hh.2 b (fun e => hne (by rw [e]))) (fun b hb => .inl hb)
    (fun O' μ' hla hk => by
      refine ⟨m, ents.push { key := .string ⟨s.toArray⟩, val := ye.zero, born := es.length }, h1, rfl, ?_, ?_, ?_, ?_⟩
      · simp only [List.length_append, List.length_singleton]; exact hh.1
      · intro i e hi
        rw [Array.getElem?_push] at hi
        split at hi
        · injection hi with hi; subst hi; simp; omega
        · exact h4 i e hi
      · simp only [List.map_append, List.map_cons, List.map_nil, Array.toList_push]
        refine (h5.mono hla _ hk).append ?_
        simp only [CvL]
        exact ⟨_, _, rfl, by simp only [Cv]; exact ⟨by first | rfl | trivial, hkv.2⟩, rfl⟩
      · simp only [List.map_append, List.map_cons, List.map_nil, Array.toList_push]
        refine (h6.mono hla _ hk).append ?_
        simp only [CvL]
        exact ⟨_, _, rfl, Cv.ofValue _ _ _ _, rfl⟩)
  unfold OpGives
  rw [hrun]
  refine ⟨_, this.1, this.2.1, this.2.2, ?_⟩
  simp only [Cv]
  refine ⟨_, rfl, ?_⟩
  simp only [CvL]
  exact ⟨_, _, rfl, Cv.ofValue _ _ _ _, _, _, rfl, by simp [Cv, goInt], rfl⟩

theorem tri_entryStore (t : TypeId) (x q v : Operand) (ho : o.op = .entryStore t x q v) (l : Lbl) (es : List (AV × AV)) (hx : V x = .mp l) (k : IntKind) (i : Nat) (hi : V q = .int k i) (p : AV × AV) (hp : es[i]? = some p) (a : AV) (ha : V v = a) :
    Tri P G o V [(l, .dmap es)] (.tup []) [(l, .dmap (es.set i (p.1, a)))] := by
  intro E w μ Lf ρ C hf hg hv _
  have hxv := hv x (by simp [ho, Op.operands])
  have hqv := hv q (by simp [ho, Op.operands])
  have hvv := hv v (by simp [ho, Op.operands])
  rw [hx] at hxv
  rw [hi] at hqv
  rw [ha] at hvv
  obtain ⟨m, ents, h1, h2, h3, h4, h5, h6⟩ := map_box C (hf l _ getL_one) hxv
  simp only [Cv] at hqv
  have hel : ents.size = es.length := by have := h5.length; simpa using this
  have hlt : i < es.length := (List.getElem?_eq_some_iff.1 hp).1
  have hgo := Go.MapKept.run_getObj_map (P := P) h3
  have hfind : ents.findIdx? (fun e => (e.born : Int) == (i : Int)) = some i := by
    rw [Array.findIdx?_eq_some_iff_getElem]
    refine ⟨by omega, ?_, ?_⟩
    · have := h4 i _ (Array.getElem?_eq_getElem (by omega)); simp [this]
    · intro j hj
      have := h4 j _ (Array.getElem?_eq_getElem (by omega)); simp [this]; omega
  have hst := Go.MapKept.run_setObj_map (P := P) (.map (ents.modify i fun e => { e with val := ρ v }) es.length) h3
  have hrun : (execOp ρ o).run P w = .ok .skip { w with heap := w.heap.setIfInBounds m (.map (ents.modify i fun e => { e with val := ρ v }) es.length) } := by
    have hai : ∀ (w : World), (asInt (.int k (i : Int))).run P w = .ok (i : Int) w := fun w => rfl
    simp only [execOp, ho, h1, hqv, Instr.entryStore, Sem.run_bind, Result.andThen_ok, hgo, hai, hfind, hst, Sem.run_pure]
    try rfl
  have hh := Go.MapKept.heap_set (o' := .map (ents.modify i fun e => { e with val := ρ v }) es.length) h3
  have := C.setBox (w' := { w with heap := w.heap.setIfInBounds m (.map (ents.modify i fun e => { e with val := ρ v }) es.length) }) l _ _ h2 (ρ x) (some m) (kp.refl _) (.dmap (es.set i (p.1, a)))
    (by simp) rfl rfl rfl (fun b hb hne => hh.2 b (fun e => hne (by rw [e]))) (fun b hb => .inl hb)
    (fun O' μ' hla hk => by
      have hk' := h5.mono hla _ hk
      have hv' := h6.mono hla _ hk
      refine ⟨m, ents.modify i fun e => { e with val := ρ v }, h1, rfl, ?_, ?_, ?_, ?_⟩
      · simp only [List.length_set]; exact hh.1
      · intro j e hj
        rw [Array.getElem?_modify] at hj
        split at hj
        · cases hq : ents[j]? with
          | none => rw [hq] at hj; cases hj
          | some e' =>
            rw [hq] at hj
            simp only [Option.map_some, Option.some.injEq] at hj
            subst hj
            exact h4 j e' hq
        · exact h4 j e hj
      · refine CvL.of_get (by simp [hel]) fun j b z g1 g2 => ?_
        simp only [List.getElem?_map, List.getElem?_set, Option.map_eq_some_iff] at g1
        simp only [List.getElem?_map, Array.getElem?_toList, Array.getElem?_modify, Option.map_eq_some_iff] at g2
        obtain ⟨p', g1, rfl⟩ := g1
        obtain ⟨e', g2, rfl⟩ := g2
        have hb : (es.map (·.1))[j]? = some p'.1 := by
          split at g1
          · rename_i e; subst e; simp [hlt] at g1; subst g1; simp [hp]
          · simp [g1]
        obtain ⟨z', q1, q2⟩ := hk'.get j _ hb
        have hz : (ents.toList.map (·.key))[j]? = some e'.key := by
          split at g2
          · simp only [Option.map_eq_some_iff] at g2
            obtain ⟨e2, g2, rfl⟩ := g2
            simp [g2]
          · simp [g2]
        rw [hz] at q1
        injection q1 with q1
        subst q1
        exact q2
      · refine CvL.of_get (by simp [hel]) fun j b z g1 g2 => ?_
        simp only [List.getElem?_map, List.getElem?_set, Option.map_eq_some_iff] at g1
        simp only [List.getElem?_map, Array.getElem?_toList, Array.getElem?_modify, Option.map_eq_some_iff] at g2
        obtain ⟨p', g1, rfl⟩ := g1
        obtain ⟨e', g2, rfl⟩ := g2
        split at g1
        · rename_i e
          subst e
          simp only [hlt, if_true, Option.some.injEq] at g1
          subst g1
          rw [if_pos rfl] at g2
          simp only [Option.map_eq_some_iff] at g2
          obtain ⟨e2, g2, rfl⟩ := g2
          exact hvv.mono hla _ hk
        · rename_i e
          rw [if_neg e] at g2
          obtain ⟨z', q1, q2⟩ := hv'.get j p'.2 (by simp [g1])
          have : (ents.toList.map (·.val))[j]? = some e'.val := by simp [g2]
          rw [this] at q1
          injection q1 with q1
          subst q1
          exact q2)
  unfold OpGives
  rw [hrun]
  refine ⟨_, this.1, this.2.1, this.2.2, ?_⟩
  simp only [Cv]
  exact ⟨_, rfl, by simp [CvL]⟩

/-- A slice literal that is the call's own row. -/
theorem tri_buildRow (hΘ : TTok P Θ) (t : TypeId) (n : Nat) (parts : Array (Nat × Operand)) (ho : o.op = .buildSlice t n parts) (y z : Ty) (e : TypeId) (hy : Θ t = some y) (hd : y.d = .slice e) (hz : Θ e = some z)
    (hn : n = parts.size) (h0 : 0 < n) (hz0 : 0 < z.size) (hsm : n * z.size ≤ 16777216) (hn2 : n ≤ 16777216) (xs : List (List AV)) (hx : cellsAll z.size 0 (parts.toList.map fun p => (p.1, V p.2)) = some xs) (l : Lbl) :
    Tri P G o V [] (.own l n) [(l, .row e z.size xs)] := by
  intro E w μ Lf ρ C hf hg hv _
  have hps : ∀ (l : List (Nat × Operand)), (∀ p ∈ l, p.2 ∈ o.op.operands) → CvL w (E.O μ) ((l.map fun p => (p.1, V p.2)).map (·.2)) μ ((l.map fun p => (p.1, ρ p.2)).map (·.2)) := by
    intro l
    induction l with
    | nil => intro _; simp [CvL]
    | cons a l ih =>
      intro h
      simp only [List.map_cons, CvL]
      exact ⟨_, _, rfl, hv _ (h a List.mem_cons_self), ih fun x hx => h x (List.mem_cons_of_mem _ hx)⟩
  have hidx : (parts.toList.map fun p => (p.1, V p.2)).map (·.1) = (parts.toList.map fun p => (p.1, ρ p.2)).map (·.1) := by simp [List.map_map, Function.comp_def]
  have hu := fun w => r_under hΘ hy w
  simp only [hd] at hu
  have hs := fun w => r_size hΘ hz w
  have hzr := fun w => r_zero hΘ hz w
  let cur : Array Value := (Array.range (n * z.size)).map (z.zero.cells[· % z.zero.cells.size]!)
  obtain ⟨vr, us, g1, g2, g3, g4, g5, g6⟩ := fill_consec (w := w) (O := E.O μ) (μ := μ) (sz := z.size) (parts.toList.map fun p => (p.1, V p.2)) (parts.toList.map fun p => (p.1, ρ p.2)) 0 cur xs hx hidx
    (hps _ fun p hp => by
      rw [ho]
      simp only [Op.operands, List.mem_toArray]
      exact List.mem_map_of_mem hp) (by simp [cur, hn])
  simp only [Nat.zero_mul, List.take_zero, List.nil_append] at g2
  have hlen : xs.length = n := by rw [g6, hn]; simp
  have hne : ¬ n * z.size = 0 := Nat.ne_of_gt (Nat.mul_pos h0 hz0)
  have hr : (execOp ρ o).run P w = .ok (.value (.slice (some ⟨w.heap.size, 0, none⟩) n n)) (w.alloc (.cells vr e)) := by
    have hrun : (Instr.buildSlice t n (parts.map fun (i, x) => (i, ρ x))).run P w = .ok (.slice (some ⟨w.heap.size, 0, none⟩) n n) (w.alloc (.cells vr e)) := by
      have g1' : Instr.fill (fun i => some (i * z.size, z.size)) cur (parts.map fun (i, x) => (i, ρ x)).toList = some vr := by simpa using g1
      have hno : ¬ 2 ^ 24 < n * z.size := by omega
      simp only [Instr.buildSlice, Sem.run_bind, hu, Result.andThen_ok, hs]
      rw [if_neg hno]
      simp only [hne, if_false, Sem.run_bind, hzr, Sem.run_pure, Result.andThen_ok]
      rw [g1']
      rfl
    simp only [execOp, ho, Sem.run_bind, hrun]
    rfl
  have hfl : us.length = n * z.size := by
    have h1 := g3.length
    have : ∀ (xs : List (List AV)), (∀ x ∈ xs, x.length = z.size) → xs.flatten.length = xs.length * z.size := by
      intro xs
      induction xs with
      | nil => intro _; simp
      | cons a as1 ih =>
        intro h
        rw [List.flatten_cons, List.length_append, List.length_cons, h a List.mem_cons_self, ih fun x hx => h x (List.mem_cons_of_mem _ hx), Nat.add_mul]
        omega
    rw [h1, this xs g5, hlen]
  have := C.newBox (w' := w.alloc (.cells vr e)) l (fresh_one hg) (.slice (some ⟨w.heap.size, 0, none⟩) n n) (some w.heap.size) (.row e z.size xs) (by rw [heap_alloc_size]; omega) rfl rfl rfl
    (fun b hb => heap_alloc w _ b hb) (fun b hb => by injection hb with hb; subst hb; rw [heap_alloc_size]; omega)
    (fun O' μ' hla hk => by
      refine ⟨_, n, us, by rw [hlen], by omega, by simp only [maxLen]; omega, g5, ⟨g3.mono hla _ hk, g4⟩, .inr ⟨w.heap.size, [], rfl, rfl, ?_, ?_⟩⟩
      · rw [heap_alloc_self]
        rw [List.append_nil, ← g2]
      · rw [List.append_nil]; exact hfl)
  unfold OpGives
  rw [hr]
  exact ⟨_, this.1, this.2.1, this.2.2, by simp only [Cv]; exact ⟨_, n, n, _, updM_same _ _ _, Nat.le_refl _, fun _ => rfl, _, _, rfl⟩⟩
end ops
end Go.Ab
/- The framework of abstract states, part 8: the reckoning of operations and regions, and that it is sound. -/
set_option linter.unusedVariables false
set_option linter.unusedSimpArgs false
namespace Go.Ab

def ev (T : TL) : Operand → AV
  | .tmp t => getT T t
  | .const v => ofValue v
  | .global g => .gp g
  | .func f => .fn (.func f) [] []
theorem ev_eq (T : TL) (x : Operand) : ev T x = evT (getT T) x := by cases x <;> rfl
def putT (T : TL) (d : Option Nat) (v : AV) : TL := match d with | some d => (d, v) :: T | none => T
theorem getT_put (T : TL) (d : Option Nat) (v : AV) : getT (putT T d v) = fun t => if d = some t then v else getT T t := by
  funext t
  cases d with
  | none => simp [putT]
  | some d =>
    simp only [putT, getT]
    by_cases e : d = t
    · subst e; simp
    · have : Nat.beq d t = false := by
        cases h : Nat.beq d t
        · rfl
        · exact absurd (Nat.eq_of_beq_eq_true h) e
      simp [this, e]

/-! The same, handed on as what it is and not as a call. -/
def getK : TL → Nat → (AV → Prop) → Prop
  | [], _, K => K .dead
  | (k, v) :: r, t, K => cond (Nat.beq k t) (K v) (getK r t K)
theorem getK_eq : ∀ (T : TL) (t : Nat) (K : AV → Prop), getK T t K = K (getT T t)
  | [], t, K => rfl
  | (k, v) :: r, t, K => by
    simp only [getK, getT]
    cases Nat.beq k t
    · exact getK_eq r t K
    · rfl
def ofValueK : Value → (AV → Prop) → Prop
  | .int k n, K => K (.int k n)
  | .bool b, K => K (.bool b)
  | .string ⟨⟨l⟩⟩, K => cond (Nat.ble l.length 9223372036854775807) (K (.str l)) (K .dead)
  | v, K => K (ofValue v)
theorem ofValueK_eq (v : Value) (K : AV → Prop) : ofValueK v K = K (ofValue v) := by
  unfold ofValueK
  split
  · rfl
  · rfl
  · rename_i l
    simp only [ofValue]
    cases Nat.ble l.length 9223372036854775807 <;> rfl
  · rfl
def evK (T : TL) (x : Operand) (K : AV → Prop) : Prop := match x with
  | .tmp t => getK T t K
  | .const v => ofValueK v K
  | .global g => K (.gp g)
  | .func f => K (.fn (.func f) [] [])
theorem evK_eq (T : TL) (x : Operand) (K : AV → Prop) : evK T x K = K (ev T x) := by
  cases x
  · exact getK_eq ..
  · exact ofValueK_eq ..
  · rfl
  · rfl
def evsK (T : TL) : List Operand → (List AV → Prop) → Prop
  | [], K => K []
  | x :: r, K => evK T x fun v => evsK T r fun l => K (v :: l)
theorem evsK_eq (T : TL) : ∀ (l : List Operand) (K : List AV → Prop), evsK T l K = K (l.map (ev T))
  | [], K => rfl
  | x :: r, K => by simp only [evsK, evK_eq, evsK_eq T r, List.map_cons]
def partsK (T : TL) : List (Nat × Operand) → (List (Nat × AV) → Prop) → Prop
  | [], K => K []
  | (i, x) :: r, K => evK T x fun v => partsK T r fun l => K ((i, v) :: l)
theorem partsK_eq (T : TL) : ∀ (l : List (Nat × Operand)) (K : List (Nat × AV) → Prop), partsK T l K = K (l.map fun p => (p.1, ev T p.2))
  | [], K => rfl
  | (i, x) :: r, K => by simp only [partsK, evK_eq, partsK_eq T r, List.map_cons]
def forceL : List AV → (List AV → Prop) → Prop
  | [], K => K []
  | a :: l, K => forceL l fun r => K (a :: r)
theorem forceL_eq : ∀ (l : List AV) (K : List AV → Prop), forceL l K = K l
  | [], K => rfl
  | a :: l, K => by simp only [forceL, forceL_eq l]
def takeVK (y : Ty) (cs : List AV) (K : AV → Prop) : Prop := cond y.agg (cond (Nat.ble y.size cs.length) (forceL (cs.take y.size) fun l => K (.agg l)) False) (match cs with | a :: _ => K a | [] => False)
theorem takeVK_eq (y : Ty) (cs : List AV) (K : AV → Prop) : takeVK y cs K = (match takeV y cs with | some r => K r | none => False) := by
  unfold takeVK takeV
  cases y.agg
  · cases cs <;> rfl
  · cases Nat.ble y.size cs.length
    · rfl
    · simp only [cond_true, forceL_eq]
def consL (gp L : BL) (K : BL → Prop) : Prop := match gp with
  | [] => K L
  | [p] => K (p :: L)
  | l => K (l ++ L)
theorem consL_eq (gp L : BL) (K : BL → Prop) : consL gp L K = K (gp ++ L) := by
  unfold consL
  split <;> rfl
def putK (T : TL) (d : Option Nat) (v : AV) (K : TL → Prop) : Prop := match d with
  | some d => K ((d, v) :: T)
  | none => K T
theorem putK_eq (T : TL) (d : Option Nat) (v : AV) (K : TL → Prop) : putK T d v K = K (putT T d v) := by cases d <;> rfl

structure WrapTo (k : IntKind) (e : Int) (K : Int → Prop) : Prop where
  out : ∃ c, k.wrap e = c ∧ K c
structure IndexTo (xs : List (List AV)) (i : Int) (K : List AV → Prop) : Prop where
  out : ∃ c, 0 ≤ i ∧ xs[i.toNat]? = some c ∧ K c
structure ByteTo (s : Str) (i : Int) (K : UInt8 → Prop) : Prop where
  out : ∃ c, 0 ≤ i ∧ s[i.toNat]? = some c ∧ K c
structure OpTo (P : Program) (G : GlP) (o : Oper) (T : TL) (L : BL) (K : AV → BL → Nat → Prop) : Prop where
  out : ∃ r fp gp c, Tri P G o (ev T) fp r gp ∧ (∀ l b, getL fp l = some b → getL L l = some b) ∧ (∀ l b, getL gp l = some b → (getL fp l).isSome = true ∨ getL L l = none) ∧ Cls c fp gp ∧ K r gp c
structure CallTo (P : Program) (G : GlP) (fv : AV) (args : List AV) (L : BL) (K : AV → BL → Nat → Prop) : Prop where
  out : ∃ r fp gp c, MeetsV P G fv args fp r gp ∧ (∀ l b, getL fp l = some b → getL L l = some b) ∧ (∀ l b, getL gp l = some b → (getL fp l).isSome = true ∨ getL L l = none) ∧ Cls c fp gp ∧ K r gp c

theorem CallTo.pure {P : Program} {G : GlP} {fv : AV} {args : List AV} {L : BL} {K : AV → BL → Nat → Prop} {r : AV} (h : MeetsV P G fv args [] r []) (hK : K r [] 0) : CallTo P G fv args L K :=
  ⟨r, [], [], 0, h, fun l b e => by simp [getL] at e, fun l b e => by simp [getL] at e, Cls.none, hK⟩
/-- A call of a function that is named, and that touches no box. -/
theorem CallTo.fn {P : Program} {G : GlP} {f : FuncId} {args : List AV} {L : BL} {K : AV → BL → Nat → Prop} {r : AV} (h : Meets P G f args [] r []) (hK : K r [] 0) : CallTo P G (.fn (.func f) [] []) args L K :=
  CallTo.pure (MeetsV.of (by simpa using h)) hK
theorem CallTo.reads {P : Program} {G : GlP} {fv : AV} {args : List AV} {L fp : BL} {K : AV → BL → Nat → Prop} {r : AV} (h : MeetsV P G fv args fp r []) (hf : ∀ l b, getL fp l = some b → getL L l = some b) (hK : K r [] 1) : CallTo P G fv args L K :=
  ⟨r, fp, [], 1, h, hf, fun l b e => by simp [getL] at e, Cls.sees, hK⟩

structure FE where
  Θ : TT
  N : Nat
  f : Nat
  ords : List (Nat × List Nat)
  stops : List Nat
  rows : List Nat
  ro : Option Nat := none
def memN : Nat → List Nat → Bool
  | _, [] => false
  | n, k :: l => cond (Nat.beq n k) true (memN n l)
def dstIn : Option Nat → List Nat → Bool
  | some d, l => memN d l
  | none, _ => false

def nth {α : Type} : List α → Nat → Option α
  | [], _ => none
  | a :: _, 0 => some a
  | _ :: l, n + 1 => nth l n
theorem nth_eq {α : Type} : ∀ (l : List α) (n : Nat), nth l n = l[n]?
  | [], _ => by simp [nth]
  | a :: _, 0 => by simp [nth]
  | _ :: l, n + 1 => by simp [nth, nth_eq l n]

def arithI (op : BinOp) (a b : Int) : Option Int := match op with
  | .add => some (a + b) | .sub => some (a - b) | .mul => some (a * b) | _ => none
def cmpI (op : BinOp) (a b : Int) : Option Bool := match op with
  | .eql => some (a == b) | .neq => some (a != b) | .lss => some (decide (a < b)) | .leq => some (decide (a ≤ b)) | .gtr => some (decide (b < a)) | .geq => some (decide (b ≤ a)) | _ => none

def sliceElem (Θ : TT) (t : TypeId) : Option (TypeId × Ty) := match Θ t with
  | some y => (match y.d with | .slice e => (match Θ e with | some z => some (e, z) | none => none) | _ => none)
  | none => none

/-- What one operation does, reckoned; where it can't be reckoned: whatever is shown of it. -/
def caop (P : Program) (G : GlP) (F : FE) (o : Oper) (T : TL) (L : BL) (K : AV → BL → Nat → Prop) : Prop :=
  match o.op with
  | .move x => evK T x fun v => K v [] 0
  | .assign x => evK T x fun v => K v [] 0
  | .pick c a b => evK T c fun u => match u with
    | .bool t => cond t (evK T a fun v => K v [] 0) (evK T b fun v => K v [] 0)
    | _ => False
  | .box e x => evK T x fun u => match cellsOf u, o.dst with
    | some cs, some d => match getL L (F.f, d) with
      | none => K (.ref (F.f, d) 0) [((F.f, d), .cells e cs)] (mkC (F.f, d))
      | some _ => False
    | _, _ => False
  | .alloc e => match F.Θ e, o.dst with
    | some y, some d => match getL L (F.f, d) with
      | none => cond (allOneB (zcells y)) (forceL (zcells y) fun cs => K (.ref (F.f, d) 0) [((F.f, d), .cells e cs)] (mkC (F.f, d))) False
      | some _ => False
    | _, _ => False
  | .build t parts => match F.Θ t with
    | some y => cond (allOneB (zcells y)) (partsK T parts.toList fun ps => match buildA F.Θ t ps with | some r => forceL r fun r => K (.agg r) [] 0 | none => False) False
    | none => False
  | .buildSlice t n parts => cond (dstIn o.dst F.rows) (OpTo P G o T L K) <| match sliceElem F.Θ t with
    | some (_, z) => cond (Nat.beq n 0 && Nat.beq parts.size 0) (K .emp [] 0) (cond (Nat.beq n parts.size && Nat.ble (n * z.size) 16777216 && Nat.ble n 16777216) (partsK T parts.toList fun ps => match cellsAll z.size 0 ps with
      | some xs => cond (cloL (fun _ => false) xs.flatten) (K (.lst z.size xs) [] 0) False
      | none => False) False)
    | none => False
  | .load t x => match F.Θ t with
    | some y => evK T x fun u => match u with
      | .ref l off => match getL L l with
        | some (.cells e cs) => takeVK y (cs.drop off) fun r => K r [] (rdC l)
        | _ => False
      | .pp cs => takeVK y cs fun r => K r [] 0
      | _ => OpTo P G o T L K
    | none => False
  | .store t x v => match F.Θ t with
    | some y => evK T x fun u => evK T v fun v => match u, cellsOf v with
      | .ref l off, some vs => match getL L l with
        | some (.cells e cs) => cond (Nat.beq vs.length y.size && Nat.ble (off + y.size) cs.length) (forceL (spliceL cs off vs) fun r => K (.tup []) [(l, .cells e r)] (wrC l)) False
        | _ => False
      | _, _ => OpTo P G o T L K
    | none => False
  | .nilCheck x => evK T x fun u => match u with
    | .ref l k => K (.ref l k) [] 0
    | .pp cs => K (.pp cs) [] 0
    | .rp l n k => K (.rp l n k) [] 0
    | .gp g => K (.gp g) [] 0
    | _ => OpTo P G o T L K
  | .fieldAddr t x f => match fieldOf F.Θ t f with
    | some (_, off, _) => evK T x fun u => match u with
      | .ref l k => K (.ref l (k + off)) [] 0
      | .pp cs => forceL (cs.drop off) fun cs => K (.pp cs) [] 0
      | _ => OpTo P G o T L K
    | none => False
  | .indexAddr t x ix => match sliceElem F.Θ t with
    | some (_, z) => evK T x fun u => evK T ix fun v => match u, v with
      | .lst sz xs, .int _ i => cond (Nat.beq z.size sz) (IndexTo xs i fun c => K (.pp c) [] 0) False
      | _, _ => OpTo P G o T L K
    | none => OpTo P G o T L K
  | .index t x ix => match F.Θ t with
    | some y => evK T x fun u => evK T ix fun v => match y.d, u, v with
      | .string, .str s, .int _ i => ByteTo s i fun c => K (.int .u8 (c.toNat : Int)) [] 0
      | _, _, _ => OpTo P G o T L K
    | none => OpTo P G o T L K
  | .makeFunc fn first cap => evsK T first.toList fun a => evsK T cap.toList fun b => K (.fn fn a b) [] 0
  | .extract x i => evK T x fun u => match u with
    | .tup vs => match nth vs i with
      | some r => K r [] 0
      | none => False
    | _ => False
  | .unOp .not _ x => evK T x fun u => match u with
    | .bool b => K (.bool (!b)) [] 0
    | _ => False
  | .binOp op _ x y _ => evK T x fun u => evK T y fun v => match u, v with
    | .int k a, .int k' b => cond (decide (k = k')) (match arithI op a b with
      | some e => WrapTo k e fun c => K (.int k c) [] 0
      | none => match cmpI op a b with
        | some t => K (.bool t) [] 0
        | none => OpTo P G o T L K) False
    | .str a, .str b => match strOp op a b with
      | some r => K r [] 0
      | none => OpTo P G o T L K
    | _, _ => OpTo P G o T L K
  | .call c => match c.callee with
    | .value fo => evK T fo fun fv => evsK T c.args.toList fun args => CallTo P G fv args L K
    | .builtin .len => match c.args.toList, c.argTypes.toList with
      | [x], [t] => match F.Θ t with
        | some y => evK T x fun u => match lenV y u with
          | some n => K (.int .i64 n) [] 0
          | none => OpTo P G o T L K
        | none => False
      | _, _ => False
    | .builtin .append => match c.args.toList, c.argTypes.toList with
      | [s, x], [t, t'] => cond (Nat.beq t t') (match sliceElem F.Θ t with
        | some (e, z) => evK T x fun ux => match elems z.size ux with
          | some ys => cond (Nat.beq z.zero.cells.size z.size && Nat.ble 1 z.size && Nat.ble z.bytes 32768) (evK T s fun us => match us with
            | .own l n => match getL L l with
              | some (.row e' sz xs) => cond (Nat.beq e e' && Nat.beq sz z.size) (xs.length = n ∧ n + ys.length ≤ 4294967296 ∧ K (.own l (n + ys.length)) [(l, .row e z.size (xs ++ ys))] (wrC l)) False
              | _ => False
            | .emp => match o.dst with
              | some d => match getL L (F.f, d) with
                | none => ys.length ≤ 4294967296 ∧ K (.own (F.f, d) ys.length) [((F.f, d), .row e z.size ys)] (mkC (F.f, d))
                | some _ => False
              | none => False
            | _ => OpTo P G o T L K) False
          | none => OpTo P G o T L K
        | none => False) False
      | _, _ => False
    | _ => OpTo P G o T L K
  | _ => OpTo P G o T L K

theorem mk_out {P : Program} {G : GlP} {o : Oper} {T : TL} {L : BL} {K : AV → BL → Nat → Prop} {r : AV} {fp gp : BL} {c : Nat} (h : Tri P G o (ev T) fp r gp) (hf : ∀ l b, getL fp l = some b → getL L l = some b)
    (hg : ∀ l b, getL gp l = some b → (getL fp l).isSome = true ∨ getL L l = none) (hc : Cls c fp gp) (hK : K r gp c) : OpTo P G o T L K := ⟨r, fp, gp, c, h, hf, hg, hc, hK⟩
theorem mk_pure {P : Program} {G : GlP} {o : Oper} {T : TL} {L : BL} {K : AV → BL → Nat → Prop} {r : AV} (h : Tri P G o (ev T) [] r []) (hK : K r [] 0) : OpTo P G o T L K :=
  mk_out (c := 0) h (fun l b e => by simp [getL] at e) (fun l b e => by simp [getL] at e) Cls.none hK
theorem getL_one_imp {L : BL} {l : Lbl} {x : ABox} (h : getL L l = some x) : ∀ k b, getL [(l, x)] k = some b → getL L k = some b := by
  intro k b e
  simp only [getL] at e
  cases hb : lbeq l k with
  | false => rw [hb] at e; cases e
  | true => rw [hb] at e; rw [← lbeq_iff.1 hb]; injection e with e; subst e; exact h
theorem getL_one_none {L : BL} {l : Lbl} {x : ABox} (h : getL L l = none) : ∀ k b, getL [(l, x)] k = some b → (getL ([] : BL) k).isSome = true ∨ getL L k = none := by
  intro k b e
  simp only [getL] at e
  cases hb : lbeq l k with
  | false => rw [hb] at e; cases e
  | true => rw [← lbeq_iff.1 hb]; exact .inr h
theorem getL_one_same {L : BL} {l : Lbl} {x y : ABox} : ∀ k b, getL [(l, x)] k = some b → (getL [(l, y)] k).isSome = true ∨ getL L k = none := by
  intro k b e
  simp only [getL] at e ⊢
  cases hb : lbeq l k with
  | false => rw [hb] at e; cases e
  | true => exact .inl rfl
theorem sliceElem_spec {Θ : TT} {t e : TypeId} {z : Ty} (h : sliceElem Θ t = some (e, z)) : ∃ y, Θ t = some y ∧ y.d = .slice e ∧ Θ e = some z := by
  unfold sliceElem at h
  split at h
  · rename_i y hy
    split at h
    · rename_i e' hd
      split at h
      · rename_i z' hz
        simp only [Option.some.injEq, Prod.mk.injEq] at h
        obtain ⟨rfl, rfl⟩ := h
        exact ⟨y, hy, hd, hz⟩
      · cases h
    · cases h
  · cases h

theorem caop_sound {P : Program} {G : GlP} {F : FE} (hΘ : TTok P F.Θ) {o : Oper} {T : TL} {L : BL} {K : AV → BL → Nat → Prop} (h : caop P G F o T L K) : OpTo P G o T L K := by
  obtain ⟨dst, op, ty, pos, after, guard⟩ := o
  cases op <;> simp only [caop, evK_eq, evsK_eq, partsK_eq, forceL_eq, takeVK_eq] at h <;> try exact h
  case move x => exact mk_pure (tri_move x (.inl rfl)) h
  case assign x => exact mk_pure (tri_move x (.inr rfl)) h
  case pick c a b =>
    split at h
    · rename_i t ht
      cases t
      · exact mk_pure (tri_pick c a b false rfl ht) h
      · exact mk_pure (tri_pick c a b true rfl ht) h
    · exact h.elim
  case box e x =>
    split at h
    · rename_i cs d hc
      split at h
      · rename_i hl
        exact mk_out (tri_box e x rfl (F.f, d) cs hc) (fun l b e => by simp [getL] at e) (getL_one_none hl) Cls.mk_ h
      · exact h.elim
    · exact h.elim
  case alloc e =>
    split at h
    · rename_i y d hy
      split at h
      · rename_i hl
        cases hb : allOneB (zcells y) with
        | false => rw [hb] at h; exact h.elim
        | true =>
          rw [hb] at h
          exact mk_out (tri_alloc hΘ e y rfl hy hb (F.f, d)) (fun l b e => by simp [getL] at e) (getL_one_none hl) Cls.mk_ h
      · exact h.elim
    · exact h.elim
  case build t parts =>
    split at h
    · rename_i y hy
      cases hb : allOneB (zcells y) with
      | false => rw [hb] at h; exact h.elim
      | true =>
        rw [hb] at h
        simp only [cond_true] at h
        split at h
        · rename_i r hr
          exact mk_pure (tri_build hΘ t parts rfl y hy hb r hr) h
        · exact h.elim
    · exact h.elim
  case buildSlice t n parts =>
    cases hdi : dstIn dst F.rows with
    | true => rw [hdi] at h; exact h
    | false =>
    rw [hdi] at h
    simp only [cond_false] at h
    split at h
    · rename_i e z he
      obtain ⟨y, hy, hd, hz⟩ := sliceElem_spec he
      cases hb : (Nat.beq n 0 && Nat.beq parts.size 0) with
      | true =>
        rw [hb] at h
        rw [Bool.and_eq_true] at hb
        obtain rfl := Nat.eq_of_beq_eq_true hb.1
        have hp : parts = #[] := Array.eq_empty_of_size_eq_zero (Nat.eq_of_beq_eq_true hb.2)
        subst hp
        exact mk_pure (tri_buildSlice0 hΘ t rfl y z e hy hd hz) h
      | false =>
        rw [hb] at h
        simp only [cond_false] at h
        cases hb2 : (Nat.beq n parts.size && Nat.ble (n * z.size) 16777216 && Nat.ble n 16777216) with
        | false => rw [hb2] at h; exact h.elim
        | true =>
          rw [hb2] at h
          simp only [cond_true] at h
          simp only [Bool.and_eq_true] at hb2
          split at h
          · rename_i xs hx
            cases hf : cloL (fun _ => false) xs.flatten with
            | false => rw [hf] at h; exact h.elim
            | true =>
              rw [hf] at h
              exact mk_pure (tri_buildSlice hΘ t n parts rfl y z e hy hd hz (Nat.eq_of_beq_eq_true hb2.1.1) (Nat.le_of_ble_eq_true hb2.1.2) (Nat.le_of_ble_eq_true hb2.2) xs hx hf) h
          · exact h.elim
    · exact h.elim
  case load t x =>
    split at h
    · rename_i y hy
      split at h
      · rename_i l off hx
        split at h
        · rename_i e cs hl
          split at h
          · rename_i r hr
            exact mk_out (tri_load_ref hΘ t y x rfl hy l off hx e cs r hr) (getL_one_imp hl) (fun l b e => by simp [getL] at e) Cls.rd h
          · exact h.elim
        · exact h.elim
      · rename_i cs hx
        split at h
        · rename_i r hr
          exact mk_pure (tri_load_pp hΘ t y x rfl hy cs hx r hr) h
        · exact h.elim
      · exact h
    · exact h.elim
  case store t x v =>
    split at h
    · rename_i y hy
      split at h
      · rename_i l off vs hx hv
        split at h
        · rename_i e cs hl
          cases hb : (Nat.beq vs.length y.size && Nat.ble (off + y.size) cs.length) with
          | false => rw [hb] at h; exact h.elim
          | true =>
            rw [hb] at h
            rw [Bool.and_eq_true] at hb
            exact mk_out (tri_store hΘ t y x v rfl hy l off hx e cs vs hv (Nat.eq_of_beq_eq_true hb.1) (Nat.le_of_ble_eq_true hb.2)) (getL_one_imp hl) getL_one_same Cls.wr h
        · exact h.elim
      · exact h
    · exact h.elim
  case nilCheck x =>
    have key : ∀ v, ev T x = v → (match v with | .ref _ _ => True | .pp _ => True | .rp _ _ _ => True | .gp _ => True | .fn (.func _) _ _ => True | _ => False) → K v [] 0 → OpTo P G ⟨dst, .nilCheck x, ty, pos, after, guard⟩ T L K := by
      rintro v rfl hv hK
      exact mk_pure (tri_nilCheck x rfl hv) hK
    split at h
    · rename_i e; exact key _ e trivial h
    · rename_i e; exact key _ e trivial h
    · rename_i e; exact key _ e trivial h
    · rename_i e; exact key _ e trivial h
    · exact h
  case fieldAddr t x f =>
    split at h
    · rename_i u off z hf
      split at h
      · rename_i l k hx
        exact mk_pure (tri_fieldAddr_ref hΘ t x f rfl hf l k hx) h
      · rename_i cs hx
        exact mk_pure (tri_fieldAddr_pp hΘ t x f rfl hf cs hx) h
      · exact h
    · exact h.elim
  case indexAddr t x ix =>
    split at h
    · rename_i e z he
      obtain ⟨y, hy, hd, hz⟩ := sliceElem_spec he
      split at h
      · rename_i sz xs k i hx hi
        cases hb : Nat.beq z.size sz with
        | false => rw [hb] at h; exact h.elim
        | true =>
          rw [hb] at h
          obtain ⟨c, h0, hc, hK⟩ := h.out
          exact mk_pure (tri_indexAddr_lst hΘ t x ix rfl y z e hy hd hz sz (Nat.eq_of_beq_eq_true hb) xs hx k i hi h0 c hc) hK
      · exact h
    · exact h
  case index t x ix =>
    split at h
    · rename_i y hy
      split at h
      · rename_i hd s k i hx hi
        obtain ⟨c, h0, hc, hK⟩ := h.out
        rename_i hs hk hii
        exact mk_pure (tri_index_str hΘ t x ix rfl y hy (by assumption) _ (by assumption) _ _ (by assumption) h0 c hc) hK
      · exact h
    · exact h
  case makeFunc fn first cap => exact mk_pure (tri_makeFunc fn first cap rfl) h
  case extract x i =>
    split at h
    · rename_i vs hx
      split at h
      · rename_i r hr
        rw [nth_eq] at hr
        exact mk_pure (tri_extract x i rfl vs hx r hr) h
      · exact h.elim
    · exact h.elim
  case unOp op t x =>
    cases op <;> simp only [caop, evK_eq, evsK_eq, partsK_eq, forceL_eq, takeVK_eq] at h <;> try exact h
    split at h
    · rename_i b hx
      exact mk_pure (tri_not t x rfl b hx) h
    · exact h.elim
  case binOp op t x y t' =>
    split at h
    · rename_i k a k' b hx hy
      by_cases hk : k = k'
      · subst hk
        simp only [decide_true, cond_true] at h
        split at h
        · rename_i e he
          obtain ⟨c, rfl, hK⟩ := h.out
          refine mk_pure (tri_arith op t t' x y rfl k a b hx hy _ ?_) hK
          cases op <;> simp only [arithI, Option.some.injEq, reduceCtorEq] at he <;> (subst he; rfl)
        · split at h
          · rename_i c hc
            refine mk_pure (tri_arith op t t' x y rfl k a b hx hy _ ?_) h
            cases op <;> simp only [cmpI, Option.some.injEq, reduceCtorEq] at hc <;> (subst hc; rfl)
          · exact h
      · simp [hk] at h
    · rename_i a b hx hy
      split at h
      · rename_i r hr
        exact mk_pure (tri_strOp op t t' x y rfl a b hx hy r hr) h
      · exact h
    · exact h
  case call c =>
    obtain ⟨callee, args, argTypes⟩ := c
    cases callee with
    | invoke r m => exact h
    | value fo =>
      simp only at h
      obtain ⟨r, fp, gp, cl, h1, h2, h3, h4, h5⟩ := h.out
      exact mk_out (tri_call fo args argTypes rfl h1) h2 h3 h4 h5
    | builtin b =>
      cases b <;> try exact h
      case len =>
        simp only at h
        split at h
        · rename_i x t hx ht
          split at h
          · rename_i y hy
            split at h
            · rename_i n hn
              have e1 : args = #[x] := by apply Array.ext'; simpa using hx
              have e2 : argTypes = #[t] := by apply Array.ext'; simpa using ht
              subst e1 e2
              exact mk_pure (tri_len hΘ t x rfl y hy n hn) h
            · exact h
          · exact h.elim
        · exact h.elim
      case append =>
        simp only at h
        split at h
        · rename_i s x t t' hx ht
          cases hb : Nat.beq t t' with
          | false => rw [hb] at h; exact h.elim
          | true =>
            rw [hb] at h
            obtain rfl := Nat.eq_of_beq_eq_true hb
            simp only [cond_true] at h
            have e1 : args = #[s, x] := by apply Array.ext'; simpa using hx
            have e2 : argTypes = #[t, t] := by apply Array.ext'; simpa using ht
            subst e1 e2
            split at h
            · rename_i e z he
              obtain ⟨y, hy, hd, hz⟩ := sliceElem_spec he
              split at h
              · rename_i ys hys
                cases hb2 : (Nat.beq z.zero.cells.size z.size && Nat.ble 1 z.size && Nat.ble z.bytes 32768) with
                | false => rw [hb2] at h; exact h.elim
                | true =>
                  rw [hb2] at h
                  simp only [cond_true] at h
                  simp only [Bool.and_eq_true] at hb2
                  obtain ⟨⟨b1, b2⟩, b3⟩ := hb2
                  have b1 := Nat.eq_of_beq_eq_true b1
                  have b2 := Nat.le_of_ble_eq_true b2
                  have b3 := Nat.le_of_ble_eq_true b3
                  split at h
                  · rename_i l n hs
                    split at h
                    · rename_i e' sz xs hl
                      cases hb3 : (Nat.beq e e' && Nat.beq sz z.size) with
                      | false => rw [hb3] at h; exact h.elim
                      | true =>
                        rw [hb3] at h
                        simp only [cond_true] at h
                        rw [Bool.and_eq_true] at hb3
                        obtain rfl := Nat.eq_of_beq_eq_true hb3.1
                        obtain rfl := Nat.eq_of_beq_eq_true hb3.2
                        obtain ⟨hn, hlen, hK⟩ := h
                        exact mk_out (tri_append_own hΘ t e s x rfl y z hy hd hz b1 b2 b3 l n hs xs ys hn hys hlen) (getL_one_imp hl) getL_one_same Cls.wr hK
                    · exact h.elim
                  · rename_i hs
                    split at h
                    · rename_i d
                      split at h
                      · rename_i hl
                        obtain ⟨hlen, hK⟩ := h
                        exact mk_out (tri_append_emp hΘ t e s x rfl y z hy hd hz b1 b2 b3 hs ys hys hlen (F.f, d)) (fun l b e => by simp [getL] at e) (getL_one_none hl) Cls.mk_ hK
                      · exact h.elim
                    · exact h.elim
                  · exact h
              · exact h
            · exact h.elim
        · exact h.elim

/-- One operation with its guard. -/
def cstep (P : Program) (G : GlP) (F : FE) (ops : List Oper) (o : Oper) (T : TL) (L : BL) (K : TL → BL → Nat → Prop) : Prop :=
  let exec (T : TL) : Prop := caop P G F o T L fun r gp c => putK T o.dst r fun T => consL gp L fun L => K T L c
  let skip (T : TL) : Prop := putK T o.dst (.tup []) fun T => K T L 0
  match o.guard with
  | none => exec T
  | some (j, want) => match (nth ops j).bind (·.dst) with
    | some d => getK T d fun u => match u with
      | .bool b => cond b (cond want (exec ((d, .bool true) :: T)) (skip ((d, .bool true) :: T))) (cond want (skip ((d, .bool false) :: T)) (exec ((d, .bool false) :: T)))
      | .tup [] => skip T
      | _ => False
    | none => False

def dstOK (N : Nat) (o : Oper) : Bool := match o.dst with | some d => Nat.blt d N | none => true
theorem dstOK_spec {N : Nat} {o : Oper} (h : dstOK N o = true) : ∀ d, o.dst = some d → d < N := fun d hd => by
  unfold dstOK at h
  rw [hd] at h
  exact Nat.le_of_ble_eq_true h

def caops (P : Program) (G : GlP) (F : FE) (ops : List Oper) : List Nat → TL → BL → List (Nat × Nat) → (TL → BL → List (Nat × Nat) → Prop) → Prop
  | [], T, L, lg, K => K T L lg
  | i :: r, T, L, lg, K => match nth ops i with
    | none => False
    | some o => cond (dstOK F.N o) (cstep P G F ops o T L fun T L c => caops P G F ops r T L ((i, c) :: lg) K) False

theorem getT_cons_same {T : TL} {d : Nat} {v : AV} (h : getT T d = v) : getT ((d, v) :: T) = getT T := by
  funext t
  simp only [getT]
  cases hb : Nat.beq d t
  · rfl
  · rw [← Nat.eq_of_beq_eq_true hb]; exact h.symm

theorem getL_ovr (gp L : BL) : getL (gp ++ L) = ovr (getL L) gp := by
  funext l
  rw [getL_append]
end Go.Ab
/- The framework of abstract states, part 9: regions, code, loops, functions. -/
set_option linter.unusedVariables false
set_option linter.unusedSimpArgs false
namespace Go.Ab

section
variable {P : Program} {G : GlP} {F : FE}

theorem cstep_sound (hΘ : TTok P F.Θ) {ops : Array Oper} {o : Oper} {T : TL} {L : BL} {K : TL → BL → Nat → Prop} (hN : ∀ d, o.dst = some d → d < F.N) (h : cstep P G F ops.toList o T L K) :
    ∃ s : Stp, s.o = o ∧ s.pre P G F.N ops (getT T, getL L) ∧ ∃ T' L', s.app (getT T, getL L) = (getT T', getL L') ∧ K T' L' s.cls := by
  have exec : ∀ T1 : TL, getT T1 = getT T → guardOK ops o (getT T) true → caop P G F o T1 L (fun r gp c => K (putT T1 o.dst r) (gp ++ L) c) →
      ∃ s : Stp, s.o = o ∧ s.pre P G F.N ops (getT T, getL L) ∧ ∃ T' L', s.app (getT T, getL L) = (getT T', getL L') ∧ K T' L' s.cls := by
    intro T1 hT hg hc
    obtain ⟨r, fp, gp, c, h1, h2, h3, h4, h5⟩ := (caop_sound hΘ hc).out
    refine ⟨⟨o, true, r, fp, gp, c⟩, rfl, ⟨hg, fun _ => ?_, fun e => (by cases e), h2, h3, hN, h4⟩, _, _, ?_, h5⟩
    · have hev : ev T1 = evT (getT T) := by funext x; rw [ev_eq, hT]
      rw [hev] at h1
      exact h1
    · simp only [Stp.app, getT_put, getL_ovr, hT]
  have skip : ∀ T1 : TL, getT T1 = getT T → guardOK ops o (getT T) false → K (putT T1 o.dst (.tup [])) L 0 →
      ∃ s : Stp, s.o = o ∧ s.pre P G F.N ops (getT T, getL L) ∧ ∃ T' L', s.app (getT T, getL L) = (getT T', getL L') ∧ K T' L' s.cls := by
    intro T1 hT hg hc
    refine ⟨⟨o, false, .tup [], [], [], 0⟩, rfl, ⟨hg, fun e => (by cases e), fun _ => ⟨rfl, rfl, rfl⟩, fun l b e => by simp [getL] at e, fun l b e => by simp [getL] at e, hN, Cls.none⟩, _, _, ?_, hc⟩
    simp only [Stp.app, getT_put, ovr_nil, hT]
  unfold cstep at h
  simp only [putK_eq, consL_eq, getK_eq] at h
  cases hgd : o.guard with
  | none =>
    rw [hgd] at h
    exact exec T rfl (by simp [guardOK, hgd]) h
  | some p =>
    obtain ⟨j, want⟩ := p
    rw [hgd] at h
    simp only [nth_eq, Array.getElem?_toList] at h
    cases hd : (ops[j]?).bind (·.dst) with
    | none => rw [hd] at h; exact h.elim
    | some d =>
      rw [hd] at h
      simp only at h
      have gok : ∀ b, getT T d = .bool b → ∀ ex, ex = (b == want) → guardOK ops o (getT T) ex := by
        intro b hb ex he
        unfold guardOK
        rw [hgd]
        simp only [hd]
        exact .inl ⟨b, hb, he⟩
      split at h
      · rename_i b hb
        cases b <;> cases want <;> simp only [cond_true, cond_false] at h
        · exact exec _ (getT_cons_same hb) (gok _ hb _ rfl) h
        · exact skip _ (getT_cons_same hb) (gok _ hb _ rfl) h
        · exact skip _ (getT_cons_same hb) (gok _ hb _ rfl) h
        · exact exec _ (getT_cons_same hb) (gok _ hb _ rfl) h
      · rename_i hb
        refine skip T rfl ?_ h
        unfold guardOK
        rw [hgd]
        simp only [hd]
        exact .inr ⟨hb, by first | rfl | trivial⟩
      · exact h.elim

theorem caops_sound (hΘ : TTok P F.Θ) {ops : Array Oper} : ∀ (idx : List Nat) {T : TL} {L : BL} {lg : List (Nat × Nat)} {K : TL → BL → List (Nat × Nat) → Prop}, caops P G F ops.toList idx T L lg K →
    ∃ (steps : List (Nat × Stp)) (T' : TL) (L' : BL), Run P G F.N ops steps (getT T, getL L) (getT T', getL L') ∧ steps.map (·.1) = idx ∧ K T' L' ((steps.map fun x => (x.1, x.2.cls)).reverse ++ lg)
  | [], T, L, lg, K, h => ⟨[], T, L, rfl, rfl, by simpa [caops] using h⟩
  | i :: r, T, L, lg, K, h => by
    simp only [caops, nth_eq, Array.getElem?_toList] at h
    cases ho : ops[i]? with
    | none => rw [ho] at h; exact h.elim
    | some o =>
      rw [ho] at h
      simp only at h
      cases hb : dstOK F.N o with
      | false => rw [hb] at h; exact h.elim
      | true =>
        rw [hb] at h
        simp only [cond_true] at h
        have hN := dstOK_spec hb
        obtain ⟨s, hs, hp, T1, L1, ha, hK⟩ := cstep_sound hΘ hN h
        obtain ⟨steps, T', L', h1, h2, h3⟩ := caops_sound hΘ r hK
        refine ⟨(i, s) :: steps, T', L', ?_, by simp [h2], by simpa using h3⟩
        simp only [Run]
        exact ⟨by rw [hs]; exact ho, hp, by rw [ha]; exact h1⟩

/-! Whether an order of a region's operations may stand for all. -/
def maskOf (acc : List Nat) (o : Oper) : Nat := o.after.toList.foldr (fun e s => cond (Region.binds .any e) (s ||| (2 ^ e.on ||| acc.getD e.on 0)) s) 0
def masks : List Oper → List Nat → List Nat
  | [], acc => acc
  | o :: r, acc => masks r (acc ++ [maskOf acc o])

theorem masks_spec : ∀ (l : List Oper) (acc : List Nat), ∃ tl, masks l acc = acc ++ tl ∧ tl.length = l.length ∧ ∀ k o, l[k]? = some o → tl[k]? = some (maskOf (acc ++ tl.take k) o)
  | [], acc => ⟨[], by simp [masks], rfl, fun k o h => by simp at h⟩
  | o :: r, acc => by
    obtain ⟨tl, h1, h2, h3⟩ := masks_spec r (acc ++ [maskOf acc o])
    refine ⟨maskOf acc o :: tl, by simp [masks, h1], by simp [h2], fun k o' hk => ?_⟩
    cases k with
    | zero => simp at hk; subst hk; simp
    | succ k =>
      have := h3 k o' (by simpa using hk)
      simpa using this

theorem maskOf_bit {acc : List Nat} {o : Oper} {i : Nat} (h : (maskOf acc o).testBit i = true) : ∃ e ∈ o.after, Region.binds .any e = true ∧ (i = e.on ∨ (acc.getD e.on 0).testBit i = true) := by
  unfold maskOf at h
  have : ∀ l : List Edge, (∀ e ∈ l, e ∈ o.after) → (l.foldr (fun e s => cond (Region.binds .any e) (s ||| (2 ^ e.on ||| acc.getD e.on 0)) s) 0).testBit i = true →
      ∃ e ∈ o.after, Region.binds .any e = true ∧ (i = e.on ∨ (acc.getD e.on 0).testBit i = true) := by
    intro l
    induction l with
    | nil => intro _ h; simp at h
    | cons e l ih =>
      intro hm h
      simp only [List.foldr_cons] at h
      cases hb : Region.binds .any e with
      | false => rw [hb] at h; exact ih (fun x hx => hm x (List.mem_cons_of_mem _ hx)) h
      | true =>
        rw [hb] at h
        simp only [cond_true, Nat.testBit_or, Bool.or_eq_true, Nat.testBit_two_pow, decide_eq_true_eq] at h
        rcases h with h | h | h
        · exact ih (fun x hx => hm x (List.mem_cons_of_mem _ hx)) h
        · exact ⟨e, hm e List.mem_cons_self, hb, .inl h.symm⟩
        · exact ⟨e, hm e List.mem_cons_self, hb, .inr h⟩
  exact this _ (fun e he => by simpa using he) h

theorem masks_dep {ops : Array Oper} (X : Nat → Prop) (hX : ∀ i k, X i → preds ops i k → X k) : ∀ (j i : Nat), ((masks ops.toList []).getD j 0).testBit i = true → (∀ k, preds ops j k → X k) → X i := by
  obtain ⟨tl, h1, h2, h3⟩ := masks_spec ops.toList []
  simp only [List.nil_append] at h1 h3
  rw [h1]
  intro j
  induction j using Nat.strongRecOn with
  | _ j ih =>
    intro i hi hp
    by_cases hj : j < ops.size
    · have ho : ops.toList[j]? = some ops[j] := by simp [hj]
      have hm := h3 j _ ho
      have hg : tl.getD j 0 = maskOf (tl.take j) ops[j] := by simp [List.getD, hm]
      rw [hg] at hi
      obtain ⟨e, he, hb, hor⟩ := maskOf_bit hi
      have hpe : X e.on := hp e.on ⟨ops[j], by simp [hj], e, he, hb, rfl⟩
      rcases hor with rfl | hor
      · exact hpe
      · by_cases hlt : e.on < j
        · have hsame : (tl.take j).getD e.on 0 = tl.getD e.on 0 := by simp [List.getD, List.getElem?_take, hlt]
          rw [hsame] at hor
          exact ih e.on hlt i hor fun k hk => hX e.on k hpe hk
        · have : (tl.take j).getD e.on 0 = 0 := by simp [List.getD, List.getElem?_take, hlt]
          rw [this] at hor
          simp at hor
    · have : tl.getD j 0 = 0 := by
        have : tl[j]? = none := List.getElem?_eq_none (by rw [h2]; simp; omega)
        simp [List.getD, this]
      rw [this] at hi
      simp at hi

def edgesOK (ops : List Oper) (seen : List Nat) (i : Nat) : Bool := match ops[i]? with
  | some o => o.after.toList.all fun e => !Region.binds .any e || seen.contains e.on
  | none => false
def linB (ops : List Oper) : List Nat → List Nat → Bool
  | _, [] => true
  | seen, i :: r => edgesOK ops seen i && linB ops (i :: seen) r
def pairOK (arr : Array Oper) (ms : List Nat) (x y : Nat × Nat) : Bool :=
  (ms.getD y.1 0).testBit x.1 || (match arr[x.1]?, arr[y.1]? with | some a, some b => a.apart arr b && compat x.2 y.2 | _, _ => false)
def pwB (arr : Array Oper) (ms : List Nat) : List (Nat × Nat) → Bool
  | [] => true
  | x :: r => r.all (fun y => !(Nat.beq x.1 y.1) && pairOK arr ms x y) && pwB arr ms r
/-- The check: lg is the order, the last first, each with its class. -/
def chk (arr : Array Oper) (lg : List (Nat × Nat)) : Bool :=
  Nat.beq lg.length arr.size && (List.range arr.size).all (fun i => lg.any fun x => Nat.beq x.1 i) && lg.all (fun x => Nat.blt x.1 arr.size) && linB arr.toList [] (lg.reverse.map (·.1)) && pwB arr (masks arr.toList []) lg.reverse

theorem linB_spec {ops : Array Oper} : ∀ (l : List (Nat × Stp)) (seen : List Nat), linB ops.toList seen (l.map (·.1)) = true → LinR ops (fun k => k ∈ seen) l
  | [], seen, h => trivial
  | (i, s) :: r, seen, h => by
    simp only [List.map_cons, linB, Bool.and_eq_true] at h
    refine ⟨fun k hk => ?_, LinR.mono (fun k hk => ?_) (linB_spec r (i :: seen) h.2)⟩
    · obtain ⟨o, ho, e, he, hb, rfl⟩ := hk
      have h1 := h.1
      unfold edgesOK at h1
      rw [Array.getElem?_toList, ho] at h1
      simp only [List.all_eq_true] at h1
      have := h1 e (by simpa using he)
      simp only [hb, Bool.not_true, Bool.false_or, List.contains_iff_mem] at this
      exact this
    · rcases List.mem_cons.1 hk with h | h
      · exact .inr h
      · exact .inl h
theorem pwB_spec {ops : Array Oper} {ms : List Nat} : ∀ (l : List (Nat × Stp)), (∀ x ∈ l, ops[x.1]? = some x.2.o) → pwB ops ms (l.map fun x => (x.1, x.2.cls)) = true →
    l.Pairwise (fun x y => (ms.getD y.1 0).testBit x.1 = true ∨ (x.2.o.apart ops y.2.o = true ∧ compat x.2.cls y.2.cls = true)) ∧ (l.map (·.1)).Nodup
  | [], _, _ => by simp
  | x :: r, ho, h => by
    simp only [List.map_cons, pwB, Bool.and_eq_true, List.all_eq_true] at h
    obtain ⟨ih1, ih2⟩ := pwB_spec r (fun y hy => ho y (List.mem_cons_of_mem _ hy)) h.2
    have h1 : ∀ y ∈ r, x.1 ≠ y.1 ∧ ((ms.getD y.1 0).testBit x.1 = true ∨ (x.2.o.apart ops y.2.o = true ∧ compat x.2.cls y.2.cls = true)) := by
      intro y hy
      have := h.1 (y.1, y.2.cls) (List.mem_map_of_mem (f := fun x : Nat × Stp => (x.1, x.2.cls)) hy)
      obtain ⟨a, b⟩ := this
      refine ⟨fun e => ?_, ?_⟩
      · rw [e] at a
        simp at a
      · unfold pairOK at b
        rw [ho x List.mem_cons_self, ho y (List.mem_cons_of_mem _ hy)] at b
        simpa using b
    refine ⟨List.pairwise_cons.2 ⟨fun y hy => (h1 y hy).2, ih1⟩, ?_⟩
    rw [List.map_cons, List.nodup_cons]
    refine ⟨fun hm => ?_, ih2⟩
    obtain ⟨y, hy, he⟩ := List.mem_map.1 hm
    exact (h1 y hy).1 he.symm

theorem Run.ops {N : Nat} {ops : Array Oper} : ∀ (l : List (Nat × Stp)) {S S' : SF}, Run P G N ops l S S' → ∀ x ∈ l, ops[x.1]? = some x.2.o
  | [], S, S', h, x, hx => by cases hx
  | (i, s) :: r, S, S', h, x, hx => by
    simp only [Run] at h
    cases hx with
    | head => exact h.1
    | tail _ hx => exact Run.ops r h.2.2 x hx

/-- A region. -/
theorem region_sound (hΘ : TTok P F.Θ) (hm : P.follows .mixedOrders = true) {id : Nat} {ops : Array Oper} {draw : Bool} {idx : List Nat} {T : TL} {L : BL} {K : TL → BL → Prop} {E : Env} {w : World} {μ : Mu} {a : Act}
    {Q : Exit → Act → World → Prop} {ro : Option Nat}
    (h : caops P G F ops.toList idx T L [] fun T L lg => (cond draw (chk ops lg = true) (idx = List.range ops.size)) ∧ K T L)
    (R : Rep G E F.N w μ (getT T, getL L) a) (hQ : ∀ T' L' w' μ' a', K T' L' → Rep G E F.N w' μ' (getT T', getL L') a' → Q .normal a' w') : (Code.region id ops draw).wpIn (wr ro) 0 P Q a w := by
  obtain ⟨steps, T', L', hrun, hidx, hc, hK⟩ := caops_sound hΘ idx h
  have hQ' : ∀ w' μ' a', Rep G E F.N w' μ' (getT T', getL L') a' → Q .normal a' w' := fun w' μ' a' R' => hQ T' L' w' μ' a' hK R'
  cases draw with
  | false =>
    simp only [cond_false] at hc
    refine wpIn_region ?_
    rw [← hc, ← hidx]
    exact run_text steps hrun R hQ'
  | true =>
    simp only [cond_true, List.append_nil] at hc
    refine wpIn_region_any hm ?_
    have hops := Run.ops steps hrun
    unfold chk at hc
    simp only [Bool.and_eq_true, List.reverse_reverse, List.map_map, Function.comp_def] at hc
    obtain ⟨⟨⟨⟨c1, c5⟩, c2⟩, c3⟩, c4⟩ := hc
    have c1 := Nat.eq_of_beq_eq_true c1
    simp only [List.length_reverse, List.length_map] at c1
    obtain ⟨p1, p2⟩ := pwB_spec steps hops c4
    have hlt : ∀ x ∈ steps.map (·.1), x < ops.size := by
      intro x hx
      obtain ⟨y, hy, rfl⟩ := List.mem_map.1 hx
      exact (Array.getElem?_eq_some_iff.1 (hops y hy)).1
    have hR2 : Rep G E F.N { w with drawn := w.drawn + 1 } μ (getT T, getL L) a := by
      have := R.core.heap (w' := { w with drawn := w.drawn + 1 }) rfl rfl rfl rfl
      exact ⟨this.1, fun t => (R.tmps t).mono this.2 _ (Keeps.refl _), R.size, R.defers.mono this.2⟩
    refine run_any (fun i j => ((masks ops.toList []).getD j 0).testBit i = true) (fun X hX i j hd hp => masks_dep X hX j i hd hp) ops.size steps (Array.replicate ops.size false) c1 (by simp) (fun i hi => ?_) p2 (fun i k hi hl => ?_) ?_ p1 hrun hR2 hQ'
    · simp only [Array.getD_eq_getD_getElem?]
      constructor
      · intro _
        simp only [List.all_eq_true, List.any_eq_true] at c5
        obtain ⟨x, hx, hxi⟩ := c5 i (List.mem_range.2 hi)
        obtain rfl := Nat.eq_of_beq_eq_true hxi
        simp only [List.mem_reverse, List.mem_map] at hx
        obtain ⟨y, hy, rfl⟩ := hx
        exact List.mem_map_of_mem hy
      · intro _
        simp [hi]
    · simp only [Array.getD_eq_getD_getElem?, hi, Array.getElem?_replicate, if_true, Option.getD_some] at hl
      cases hl
    · exact LinR.mono (fun k hk => by cases hk) (linB_spec steps [] c3)
end
end Go.Ab
