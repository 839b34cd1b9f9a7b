/- The framework of abstract states, part 10: code, loops, functions. -/
import Derived.IntWalk
import Derived.KernelRfl
import Derived.Test.YtmfolelgdpkkoaaGreatDoorA2
set_option linter.unusedVariables false
set_option linter.unusedSimpArgs false
namespace Go.Ab

inductive AE where
  | normal
  | exit (id : Nat)
  | ret
def AE.ex : AE → Exit
  | .normal => .normal
  | .exit id => .exit id
  | .ret => .ret

def Post (G : GlP) (E : Env) (N : Nat) (K : AE → TL → BL → Prop) : Exit → Act → World → Prop := fun e a' w' => ∃ x T' L' μ', x.ex = e ∧ Rep G E N w' μ' (getT T', getL L') a' ∧ K x T' L'

def loopWp (P : Program) (ro : Option Nat) (c : Code) (Q : Exit → Act → World → Prop) (a : Act) (w : World) : Prop :=
  ∀ (b : Frame) (k : List Item) (cs : List Frame), b.roundOf = ro → ∃ e a' w', Q e a' w' ∧ ArrivesIn (Machine.fenced P (wr ro)) P (lone (b.atR a (.code c :: .inLoop c :: k)) cs w) b k cs e a' w'

theorem loopWp_unroll {P : Program} {ro : Option Nat} {c : Code} {Q : Exit → Act → World → Prop} {a : Act} {w : World} (h : c.wpIn (wr ro) 0 P (Exit.then (loopWp P ro c Q) Q) a w) : loopWp P ro c Q a w := by
  intro b k cs hro
  have hr : (wr ro).room (cs.length + 1 + 0) := fun _ h => by cases h
  have hb : (wr ro).fn b.fn := trivial
  obtain ⟨e, a₁, w₁, hq, harr⟩ := h b (.inLoop c :: k) cs hro hb hr
  cases e with
  | normal =>
    obtain ⟨e₂, a₂, w₂, hq₂, harr₂⟩ := hq b k cs hro
    exact ⟨e₂, a₂, w₂, hq₂, .of_steps (StepsIn.trans harr (.one (fenced_calm hb hr rfl) stepR_inLoop)) harr₂⟩
  | exit id => exact ⟨_, a₁, w₁, hq, .pass (x := .inLoop c) rfl (fun _ _ => .inl (by simp)) harr⟩
  | goto l => exact ⟨_, a₁, w₁, hq, .pass (x := .inLoop c) rfl (fun _ _ => .inl (by simp)) harr⟩
  | ret => exact ⟨_, a₁, w₁, hq, .pass (x := .inLoop c) rfl (fun _ _ => .inl (by simp)) harr⟩
  | panic ch => exact ⟨_, a₁, w₁, hq, .pass (x := .inLoop c) rfl (fun _ _ => .inl (by simp)) harr⟩
  | outgrown => exact ⟨_, a₁, w₁, hq, .pass (x := .inLoop c) rfl (fun _ _ => .inl (by simp)) harr⟩
theorem wp_of_loopWp {P : Program} {ro : Option Nat} {c : Code} {Q : Exit → Act → World → Prop} {a : Act} {w : World} (h : loopWp P ro c Q a w) : (Code.loop c).wpIn (wr ro) 0 P Q a w := by
  intro b k cs hro hb hr
  obtain ⟨e, a', w', hq, harr⟩ := h b k cs hro
  exact ⟨e, a', w', hq, .of_steps (.one (fenced_calm hb hr rfl) stepR_loop) harr⟩

/-- The boxes that were there when the function began. -/
structure EnvOK (F : FE) (R : BL) (E : Env) : Prop where
  dom : ∀ l, (E.μ0 l).isSome = true → (getL R l).isSome = true

structure LoopOK (P : Program) (G : GlP) (F : FE) (R : BL) (c : Code) (T : TL) (L : BL) (K : AE → TL → BL → Prop) : Prop where
  out : ∀ (E : Env) (w : World) (μ : Mu) (a : Act), EnvOK F R E → Rep G E F.N w μ (getT T, getL L) a → loopWp P F.ro c (Post G E F.N K) a w

def ordOf : List (Nat × List Nat) → Nat → Nat → List Nat
  | [], _, n => List.range n
  | (i, l) :: r, id, n => cond (Nat.beq i id) l (ordOf r id n)

/-- A part of the code of which whatever is shown may be shown. -/
structure CodeTo (P : Program) (G : GlP) (F : FE) (R : BL) (c : Code) (T : TL) (L : BL) (K : AE → TL → BL → Prop) : Prop where
  out : ∀ (E : Env) (w : World) (μ : Mu) (a : Act), EnvOK F R E → Rep G E F.N w μ (getT T, getL L) a → c.wpIn (wr F.ro) 0 P (Post G E F.N K) a w

def seqK (f : TL → BL → (AE → TL → BL → Prop) → Prop) (K : AE → TL → BL → Prop) : AE → TL → BL → Prop
  | .normal, T, L => f T L K
  | .exit i, T, L => K (.exit i) T L
  | .ret, T, L => K .ret T L
def blkK (id : Nat) (K : AE → TL → BL → Prop) : AE → TL → BL → Prop
  | .normal, T, L => K .normal T L
  | .exit i, T, L => cond (Nat.beq i id) (K .normal T L) (K (.exit i) T L)
  | .ret, T, L => K .ret T L

def areg (P : Program) (G : GlP) (F : FE) (id : Nat) (ops : Array Oper) (draw : Bool) (T : TL) (L : BL) (K : AE → TL → BL → Prop) : Prop :=
  cond draw (caops P G F ops.toList (ordOf F.ords id ops.size) T L [] fun T L lg => chk ops lg = true ∧ K .normal T L)
      (caops P G F ops.toList (List.range ops.size) T L [] fun T L _ => K .normal T L)

def acode (P : Program) (G : GlP) (F : FE) (R : BL) : Code → TL → BL → (AE → TL → BL → Prop) → Prop
  | .skip, T, L, K => K .normal T L
  | .seq a b, T, L, K => acode P G F R a T L (seqK (acode P G F R b) K)
  | .cond c a b, T, L, K => evK T c fun u => match u with
    | .bool t => cond t (acode P G F R a T L K) (acode P G F R b T L K)
    | .ub => acode P G F R a T L K ∧ acode P G F R b T L K
    | _ => False
  | .block id c, T, L, K => acode P G F R c T L (blkK id K)
  | .loop c, T, L, K => LoopOK P G F R c T L K
  | .exit id, T, L, K => K (.exit id) T L
  | .ret, T, L, K => K .ret T L
  | .rangeFunc g ps x y, T, L, K => CodeTo P G F R (.rangeFunc g ps x y) T L K
  | .region id ops draw, T, L, K => cond (memN id F.stops) (CodeTo P G F R (.region id ops draw) T L K) (areg P G F id ops draw T L K)
  | _, _, _, _ => False

theorem caops_mono {P : Program} {G : GlP} {F : FE} {ops : List Oper} : ∀ (idx : List Nat) {T : TL} {L : BL} {lg : List (Nat × Nat)} {K K' : TL → BL → List (Nat × Nat) → Prop},
    (∀ T L lg, K T L lg → K' T L lg) → caops P G F ops idx T L lg K → True := fun _ _ => fun _ _ => trivial

section
variable {P : Program} {G : GlP} {F : FE} {R : BL}

theorem areg_sound (hΘ : TTok P F.Θ) (hm : P.follows .mixedOrders = true) {id : Nat} {ops : Array Oper} {draw : Bool} {T : TL} {L : BL} {K : AE → TL → BL → Prop} (h : areg P G F id ops draw T L K) : CodeTo P G F R (.region id ops draw) T L K := by
  refine ⟨fun E w μ a hE R' => ?_⟩
  unfold areg at h
  cases draw with
  | true =>
    simp only [cond_true] at h
    refine region_sound hΘ hm (K := fun T L => K .normal T L) (idx := ordOf F.ords id ops.size) (by simpa using h) R' ?_
    intro T' L' w' μ' a' hK R2
    exact ⟨.normal, T', L', μ', rfl, R2, hK⟩
  | false =>
    simp only [cond_false] at h
    refine region_sound hΘ hm (K := fun T L => K .normal T L) (idx := List.range ops.size) (by simpa using h) R' ?_
    intro T' L' w' μ' a' hK R2
    exact ⟨.normal, T', L', μ', rfl, R2, hK⟩

theorem acode_sound (hΘ : TTok P F.Θ) (hm : P.follows .mixedOrders = true) : ∀ (c : Code) {T : TL} {L : BL} {K : AE → TL → BL → Prop} {E : Env} {w : World} {μ : Mu} {a : Act}, EnvOK F R E → acode P G F R c T L K →
    Rep G E F.N w μ (getT T, getL L) a → c.wpIn (wr F.ro) 0 P (Post G E F.N K) a w
  | .skip, T, L, K, E, w, μ, a, hE, h, R' => wpIn_skip ⟨.normal, T, L, μ, rfl, R', h⟩
  | .exit id, T, L, K, E, w, μ, a, hE, h, R' => wpIn_exit ⟨.exit id, T, L, μ, rfl, R', h⟩
  | .ret, T, L, K, E, w, μ, a, hE, h, R' => wpIn_ret ⟨.ret, T, L, μ, rfl, R', h⟩
  | .seq x y, T, L, K, E, w, μ, a, hE, h, R' => by
    refine wpIn_seq (wpIn_mono (acode_sound hΘ hm x hE h R') ?_)
    rintro e a' w' ⟨z, T', L', μ', rfl, R2, hK⟩
    cases z with
    | normal => exact acode_sound hΘ hm y hE hK R2
    | exit i => exact ⟨.exit i, T', L', μ', rfl, R2, hK⟩
    | ret => exact ⟨.ret, T', L', μ', rfl, R2, hK⟩
  | .cond c x y, T, L, K, E, w, μ, a, hE, h, R' => by
    simp only [acode, evK_eq] at h
    split at h
    · rename_i t ht
      have hv := R'.ev c
      rw [← ev_eq, ht] at hv
      simp only [Cv] at hv
      cases t with
      | true => exact wpIn_cond_true hv (acode_sound hΘ hm x hE h R')
      | false => exact wpIn_cond_false hv (acode_sound hΘ hm y hE h R')
    · rename_i ht
      have hv := R'.ev c
      rw [← ev_eq, ht] at hv
      simp only [Cv] at hv
      obtain ⟨t, hv⟩ := hv
      cases t with
      | true => exact wpIn_cond_true hv (acode_sound hΘ hm x hE h.1 R')
      | false => exact wpIn_cond_false hv (acode_sound hΘ hm y hE h.2 R')
    · exact h.elim
  | .block id c, T, L, K, E, w, μ, a, hE, h, R' => by
    refine wpIn_block (wpIn_mono (acode_sound hΘ hm c hE h R') ?_)
    rintro e a' w' ⟨z, T', L', μ', rfl, R2, hK⟩
    cases z with
    | normal => exact ⟨.normal, T', L', μ', rfl, R2, hK⟩
    | ret => exact ⟨.ret, T', L', μ', rfl, R2, hK⟩
    | exit i =>
      simp only [blkK] at hK
      simp only [AE.ex, Exit.inBlock]
      by_cases e : i = id
      · rw [if_pos e]
        subst e
        rw [show Nat.beq i i = true from Nat.beq_refl i] at hK
        exact ⟨.normal, T', L', μ', rfl, R2, hK⟩
      · rw [if_neg e]
        have : Nat.beq i id = false := by
          cases hb : Nat.beq i id
          · rfl
          · exact absurd (Nat.eq_of_beq_eq_true hb) e
        rw [this] at hK
        exact ⟨.exit i, T', L', μ', rfl, R2, hK⟩
  | .loop c, T, L, K, E, w, μ, a, hE, h, R' => wp_of_loopWp (LoopOK.out h E w μ a hE R')
  | .region id ops draw, T, L, K, E, w, μ, a, hE, h, R' => by
    simp only [acode] at h
    cases hs : memN id F.stops with
    | true =>
      rw [hs] at h
      exact CodeTo.out h E w μ a hE R'
    | false =>
      rw [hs] at h
      exact (areg_sound hΘ hm h).out E w μ a hE R'
  | .rangeFunc f p x y, T, L, K, E, w, μ, a, hE, h, R' => CodeTo.out h E w μ a hE R'
  | .scope x, T, L, K, E, w, μ, a, hE, h, R' => h.elim
  | .label l, T, L, K, E, w, μ, a, hE, h, R' => h.elim
  | .goto l, T, L, K, E, w, μ, a, hE, h, R' => h.elim
  | .refuse s, T, L, K, E, w, μ, a, hE, h, R' => h.elim

/-- A round of a loop. -/
theorem LoopOK.round (hΘ : TTok P F.Θ) (hm : P.follows .mixedOrders = true) {c : Code} {T : TL} {L : BL} {K : AE → TL → BL → Prop}
    (h : acode P G F R c T L (seqK (fun T L K => LoopOK P G F R c T L K) K)) : LoopOK P G F R c T L K := by
  refine ⟨fun E w μ a hE R' => loopWp_unroll (wpIn_mono (acode_sound hΘ hm c hE h R') ?_)⟩
  rintro e a' w' ⟨z, T', L', μ', rfl, R2, hK⟩
  cases z with
  | normal => exact LoopOK.out hK E w' μ' a' hE R2
  | exit i => exact ⟨.exit i, T', L', μ', rfl, R2, hK⟩
  | ret => exact ⟨.ret, T', L', μ', rfl, R2, hK⟩

/-- One abstract state may be taken for another. -/
def Conv (G : GlP) (F : FE) (R : BL) (T : TL) (L : BL) (T' : TL) (L' : BL) : Prop :=
  ∀ (E : Env) (w : World) (μ : Mu) (a : Act), EnvOK F R E → Rep G E F.N w μ (getT T, getL L) a → ∃ μ', Rep G E F.N w μ' (getT T', getL L') a
theorem Conv.refl (T : TL) (L : BL) : Conv G F R T L T L := fun E w μ a hE h => ⟨μ, h⟩
theorem Conv.trans {T : TL} {L : BL} {T' : TL} {L' : BL} {T2 : TL} {L2 : BL} (h : Conv G F R T L T' L') (h' : Conv G F R T' L' T2 L2) : Conv G F R T L T2 L2 := fun E w μ a hE h0 => by
  obtain ⟨μ1, h1⟩ := h E w μ a hE h0
  exact h' E w μ1 a hE h1
theorem CodeTo.conv {c : Code} {T : TL} {L : BL} {T' : TL} {L' : BL} {K : AE → TL → BL → Prop} (hc : Conv G F R T L T' L') (h : CodeTo P G F R c T' L' K) : CodeTo P G F R c T L K :=
  ⟨fun E w μ a hE R' => by
    obtain ⟨μ', R2⟩ := hc E w μ a hE R'
    exact h.out E w μ' a hE R2⟩
theorem LoopOK.conv {c : Code} {T : TL} {L : BL} {T' : TL} {L' : BL} {K : AE → TL → BL → Prop} (hc : Conv G F R T L T' L') (h : LoopOK P G F R c T' L' K) : LoopOK P G F R c T L K :=
  ⟨fun E w μ a hE R' => by
    obtain ⟨μ', R2⟩ := hc E w μ a hE R'
    exact h.out E w μ' a hE R2⟩
end

theorem getT_all {T : TL} {D : Lbl → Bool} (hc : ∀ p ∈ T, cloB D p.2 = true) (k : Nat) : cloB D (getT T k) = true := by
  induction T with
  | nil => rfl
  | cons p r ih =>
    obtain ⟨j, v⟩ := p
    simp only [getT]
    cases Nat.beq j k with
    | true => exact hc (j, v) List.mem_cons_self
    | false => exact ih fun q hq => hc q (List.mem_cons_of_mem _ hq)
theorem BoxR.relabel {w : World} {O : Nat → Prop} {D : Lbl → Bool} {μ μ' : Mu} (hμ : ∀ l, D l = true → μ' l = μ l) {o : ABox} {v : Value} {ob : Option Nat} (hc : cloX D o = true) (h : BoxR w O o μ v ob) : BoxR w O o μ' v ob := by
  cases o with
  | cells e cs =>
    obtain ⟨b, vs, h1, h2, h3, h4, h5⟩ := h
    exact ⟨b, vs, h1, h2, h3, h4.relabel hμ cs hc, h5⟩
  | row e sz xs =>
    obtain ⟨A, cap, vs, h1, h2, h3, h4, h5, h6⟩ := h
    exact ⟨A, cap, vs, h1, h2, h3, h4, ⟨h5.1.relabel hμ _ hc, h5.2⟩, h6⟩
  | dmap es =>
    obtain ⟨r, ents, h1, h2, h3, h6, h4, h5⟩ := h
    simp only [cloX, Bool.and_eq_true] at hc
    exact ⟨r, ents, h1, h2, h3, h6, h4.relabel hμ _ hc.1, h5.relabel hμ _ hc.2⟩
  | lrec st jump ld T =>
    obtain ⟨b, r, h1, h2, h3, h4, h5, h6, h7, h8, h9, h10⟩ := h
    refine ⟨b, r, h1, h2, h3, h4, h5, h6, h7, h8, h9, fun t => (h10 t).relabel hμ _ ?_⟩
    simp only [cloX, List.all_eq_true] at hc
    exact getT_all hc t

def keyB (L : BL) (l : Lbl) : Bool := (getL L l).isSome

/-- Labels that nobody needs are dropped. -/
theorem Core.drop {G : GlP} {E : Env} {w : World} {μ : Mu} {L : Lbl → Option ABox} (C : Core G E w μ L) (L' : BL) (hl : ∀ l o, getL L' l = some o → L l = some o) (h0 : ∀ l, (E.μ0 l).isSome = true → (getL L' l).isSome = true)
    (hc : ∀ l o, getL L' l = some o → cloX (keyB L') o = true) :
    ∃ μ', (∀ l, keyB L' l = true → μ' l = μ l) ∧ Core G E w μ' (getL L') ∧ Later w (E.O μ) w (E.O μ') := by
  refine ⟨fun l => if keyB L' l then μ l else none, fun l h => by simp [h], ?_⟩
  have hsub : ∀ l x, (if keyB L' l then μ l else none) = some x → μ l = some x := fun l x h => by
    split at h
    · exact h
    · cases h
  have hown : ∀ b, own (fun l => if keyB L' l then μ l else none) b → own μ b := fun b ⟨l, v, h⟩ => ⟨l, v, hsub l _ h⟩
  have later : Later w (E.O μ) w (E.O fun l => if keyB L' l then μ l else none) := ⟨Nat.le_refl _, fun b _ ho => ⟨rfl, fun h => ho (h.imp (hown b) id)⟩⟩
  refine ⟨⟨C.gl, C.ngw, fun b h => C.ngo b (hown b h), fun b h => C.ownlt b (hown b h), C.Xlt, fun b hx h => C.Xdis b hx (hown b h), C.Xng, fun l l' v v' b h h' => C.inj l l' v v' b (hsub _ _ h) (hsub _ _ h'), fun l => ?_, fun l o h => ?_,
    C.os, C.tape, C.output, C.size, C.frame, fun b h => C.fresh b (hown b h), fun l v ob h => ?_⟩, later⟩
  · cases hk : getL L' l with
    | none => simp [keyB, hk]
    | some o =>
      have := C.dom l
      rw [hl l o hk] at this
      simp [keyB, hk, this]
  · obtain ⟨v, ob, h1, h2⟩ := C.box l o (hl l o h)
    have hk : keyB L' l = true := by simp [keyB, h]
    refine ⟨v, ob, by simp [hk, h1], ?_⟩
    refine BoxR.relabel (D := keyB L') (μ := μ) (fun l h => by simp [h]) (hc l o h) ?_
    exact h2.mono later (Keeps.refl _) fun b _ => rfl
  · obtain ⟨v', ob', h1, h2⟩ := C.keep l v ob h
    have hk : keyB L' l = true := h0 l (by rw [h]; rfl)
    exact ⟨v', ob', by simp [hk, h1], h2⟩

structure Weak (R : BL) (T : TL) (L : BL) (T' : TL) (L' : BL) : Prop where
  t : ∀ k, getT T' k = .dead ∨ getT T' k = getT T k
  l : ∀ l o, getL L' l = some o → getL L l = some o
  foreign : ∀ l, (getL R l).isSome = true → (getL L' l).isSome = true
  cloT : ∀ k, cloB (keyB L') (getT T' k) = true
  cloL : ∀ l o, getL L' l = some o → cloX (keyB L') o = true

theorem Conv.weak {G : GlP} {F : FE} {R : BL} {T : TL} {L : BL} {T' : TL} {L' : BL} (h : Weak R T L T' L') : Conv G F R T L T' L' := by
  intro E w μ a hE h0
  obtain ⟨μ', h1, h2, h3⟩ := h0.core.drop L' h.l (fun l hl => h.foreign l (hE.dom l hl)) h.cloL
  refine ⟨μ', h2, fun k => ?_, h0.size, h0.defers.mono h3⟩
  have hk := h0.tmps k
  rcases h.t k with e | e
  · simp only at *
    rw [e]
    simp [Cv]
  · simp only at *
    rw [← e] at hk
    exact ((hk.mono h3 _ (Keeps.refl _)).relabel (D := keyB L') h1 _ (h.cloT k))

def SubT : TL → TL → Prop
  | [], _ => True
  | (k, v) :: r, T => getT T k = v ∧ SubT r T
def SubL : BL → BL → Prop
  | [], _ => True
  | (l, o) :: r, L => getL L l = some o ∧ SubL r L
theorem SubT.spec {T : TL} : ∀ {T' : TL}, SubT T' T → ∀ k, getT T' k = .dead ∨ getT T' k = getT T k
  | [], h, k => .inl rfl
  | (j, v) :: r, h, k => by
    simp only [getT]
    cases hb : Nat.beq j k with
    | false => exact SubT.spec h.2 k
    | true => obtain rfl := Nat.eq_of_beq_eq_true hb; exact .inr h.1.symm
theorem SubL.spec {L : BL} : ∀ {L' : BL}, SubL L' L → ∀ l o, getL L' l = some o → getL L l = some o
  | [], h, l, o, e => by simp [getL] at e
  | (j, v) :: r, h, l, o, e => by
    simp only [getL] at e
    cases hb : lbeq j l with
    | false => rw [hb] at e; exact SubL.spec h.2 l o e
    | true => rw [hb] at e; rw [← lbeq_iff.1 hb]; injection e with e; subst e; exact h.1
def cloChk (R : BL) (T' : TL) (L' : BL) : Bool := T'.all (fun p => cloB (keyB L') p.2) && L'.all (fun p => cloX (keyB L') p.2) && R.all (fun p => keyB L' p.1)
theorem getL_mem {l : Lbl} {o : ABox} : ∀ {L : BL}, getL L l = some o → (l, o) ∈ L
  | [], h => by simp [getL] at h
  | (k, x) :: r, h => by
    simp only [getL] at h
    cases hb : lbeq k l with
    | false => rw [hb] at h; exact List.mem_cons_of_mem _ (getL_mem h)
    | true => rw [hb] at h; rw [← lbeq_iff.1 hb]; injection h with h; subst h; exact List.mem_cons_self
theorem Weak.mk' {R : BL} {T : TL} {L : BL} {T' : TL} {L' : BL} (ht : SubT T' T) (hl : SubL L' L) (hc : cloChk R T' L' = true) : Weak R T L T' L' := by
  unfold cloChk at hc
  simp only [Bool.and_eq_true, List.all_eq_true] at hc
  refine ⟨ht.spec, hl.spec, fun l h => ?_, fun k => ?_, fun l o h => hc.1.2 _ (getL_mem h)⟩
  · cases hr : getL R l with
    | none => rw [hr] at h; cases h
    | some o => exact hc.2 _ (getL_mem hr)
  · have : getT T' k = .dead ∨ ∃ p ∈ T', getT T' k = p.2 := by
      clear ht hc
      induction T' with
      | nil => exact .inl rfl
      | cons p r ih =>
        obtain ⟨j, v⟩ := p
        simp only [getT]
        cases hb : Nat.beq j k with
        | true => exact .inr ⟨_, List.mem_cons_self, rfl⟩
        | false => exact ih.imp id fun ⟨p, hp, e⟩ => ⟨p, List.mem_cons_of_mem _ hp, e⟩
    rcases this with e | ⟨p, hp, e⟩
    · rw [e]; rfl
    · rw [e]; exact hc.1.1 p hp

theorem LoopOK.weak {P : Program} {G : GlP} {F : FE} {R : BL} {c : Code} {T : TL} {L : BL} (T' : TL) (L' : BL) {K : AE → TL → BL → Prop} (ht : SubT T' T) (hl : SubL L' L) (hc : cloChk R T' L' = true) (h : LoopOK P G F R c T' L' K) :
    LoopOK P G F R c T L K := h.conv (Conv.weak (Weak.mk' ht hl hc))

/-- A slice without room becomes a row of the call's own, without elements. -/
theorem Conv.empOwn {G : GlP} {F : FE} {R : BL} {T : TL} {L : BL} (t : Nat) (ht : getT T t = .emp) (l : Lbl) (hl : getL L l = none) (e : TypeId) (sz : Nat) : Conv G F R T L ((t, .own l 0) :: T) ((l, .row e sz []) :: L) := by
  intro E w μ a hE h
  have hv := h.tmps t
  simp only at hv
  rw [ht] at hv
  simp only [Cv] at hv
  obtain ⟨A, hA⟩ := hv
  have := h.core.newBox (w' := w) l hl (.slice A 0 0) none (.row e sz []) (Nat.le_refl _) rfl rfl rfl (fun b _ => rfl) (fun b hb => by cases hb)
    (fun O' μ' hla hk => ⟨A, 0, [], rfl, Nat.le_refl _, Nat.zero_le _, (fun x hx => by cases hx), ⟨by simp [CvL], (fun c hc => by simp at hc)⟩, .inl ⟨rfl, rfl⟩⟩)
  refine ⟨updM μ l (.slice A 0 0, none), ⟨?_, fun k => ?_, h.size, h.defers.mono this.2.1⟩⟩
  · have e1 : getL ((l, ABox.row e sz []) :: L) = ovr (getL L) [(l, .row e sz [])] := getL_ovr [(l, .row e sz [])] L
    simp only
    rw [e1]
    exact this.1
  · simp only [getT]
    cases hb : Nat.beq t k with
    | true =>
      obtain rfl := Nat.eq_of_beq_eq_true hb
      simp only [cond_true, Cv]
      exact ⟨A, 0, 0, none, updM_same _ _ _, Nat.le_refl _, fun _ => hA, A, 0, hA⟩
    | false => exact (h.tmps k).mono this.2.1 _ this.2.2

/-! The end of a function. -/
structure Fin (P : Program) (G : GlP) (F : FE) (R : BL) (fn : Func) (r : AV) (gp : BL) (T : TL) (L : BL) : Prop where
  out : ∀ (E : Env) (w : World) (μ : Mu) (a : Act), EnvOK F R E → Rep G E F.N w μ (getT T, getL L) a → ∃ v μ', (results fn a.tmps).run P w = .ok v w ∧ Core G E w μ' (getL (gp ++ R)) ∧ Cv w (E.O μ') r μ' v

theorem Fin.conv {P : Program} {G : GlP} {F : FE} {R : BL} {fn : Func} {r : AV} {gp : BL} {T T' : TL} {L L' : BL} (hc : Conv G F R T L T' L') (h : Fin P G F R fn r gp T' L') : Fin P G F R fn r gp T L :=
  ⟨fun E w μ a hE R' => by
    obtain ⟨μ', R2⟩ := hc E w μ a hE R'
    exact h.out E w μ' a hE R2⟩

def resA (Θ : TT) (T : TL) (L : BL) : List ResultVar → Option (List AV)
  | [] => some []
  | .tmp t :: r => match resA Θ T L r with
    | some l => some (getT T t :: l)
    | none => none
  | .cell t ty :: r => match Θ ty, getT T t, resA Θ T L r with
    | some y, .ref l off, some l' => match getL L l with
      | some (.cells _ cs) => match takeV y (cs.drop off) with
        | some x => some (x :: l')
        | none => none
      | _ => none
    | _, _, _ => none
def resV : List AV → AV
  | [a] => a
  | l => .tup l

def resOne (tmps : Array Value) : ResultVar → Sem Value
  | .tmp t => pure (tmps.getD t undef)
  | .cell a t => do loadVar t (← asAddr (tmps.getD a undef))
theorem resA_spec {P : Program} {G : GlP} {F : FE} (hΘ : TTok P F.Θ) {E : Env} {w : World} {μ : Mu} {a : Act} {T : TL} {L : BL} (R' : Rep G E F.N w μ (getT T, getL L) a) : ∀ (rs : List ResultVar) (l : List AV), resA F.Θ T L rs = some l →
    ∃ vs, (rs.mapM (resOne a.tmps)).run P w = .ok vs w ∧ CvL w (E.O μ) l μ vs
  | [], l, h => by
    simp only [resA, Option.some.injEq] at h
    subst h
    exact ⟨[], by simp, by simp [CvL]⟩
  | .tmp t :: r, l, h => by
    simp only [resA] at h
    split at h
    · rename_i l' hl
      injection h with h
      subst h
      obtain ⟨vs, h1, h2⟩ := resA_spec hΘ R' r l' hl
      refine ⟨a.tmps.getD t undef :: vs, ?_, ?_⟩
      · rw [List.mapM_cons]
        simp only [resOne, Sem.run_bind, Sem.run_pure, Result.andThen_ok, h1]
      · simp only [CvL]
        exact ⟨_, _, rfl, R'.tmps t, h2⟩
    · cases h
  | .cell t ty :: r, l, h => by
    simp only [resA] at h
    split at h
    · rename_i y l0 off l' hy ht hl
      split at h
      · rename_i e cs hL
        split at h
        · rename_i x hx
          injection h with h
          subst h
          obtain ⟨vs, h1, h2⟩ := resA_spec hΘ R' r l' hl
          have hv := R'.tmps t
          simp only at hv
          rw [ht] at hv
          simp only [Cv] at hv
          obtain ⟨b, ob, g1, g2⟩ := hv
          obtain ⟨_, us, k1, k2, k3⟩ := box_cells R'.core hL g1
          obtain ⟨v, r1, r2⟩ := load_run hΘ hy (b := b) (off := off) (k2.drop off) (k3.drop off) (fun j u hj => by
            simp only [World.cell?, k1]
            simpa using hj) hx
          refine ⟨v :: vs, ?_, ?_⟩
          · rw [List.mapM_cons]
            have ha : ∀ (x : Addr) (w : World), (asAddr (.pointer (some x))).run P w = .ok x w := fun _ _ => rfl
            simp only [resOne, Sem.run_bind, Sem.run_pure, Result.andThen_ok, h1, g2, ha, r1]
          · simp only [CvL]
            exact ⟨_, _, rfl, r2, h2⟩
        · cases h
      · cases h
    · cases h

def packV : List Value → Value
  | [v] => v
  | l => .tuple l.toArray
theorem results_run {P : Program} {fn : Func} {tmps : Array Value} {w : World} {vs : List Value} (h : (fn.results.toList.mapM (resOne tmps)).run P w = .ok vs w) : (results fn tmps).run P w = .ok (packV vs) w := by
  have e : results fn tmps = (fn.results.mapM (resOne tmps) >>= fun vs => pure (if h : vs.size = 1 then vs[0] else .tuple vs)) := rfl
  rw [e, Array.mapM_eq_mapM_toList]
  have h' : Sem.run P (List.toArray <$> (fn.results.toList.mapM (resOne tmps))) w = .ok vs.toArray w := by
    simp only [← bind_pure_comp, Sem.run_bind, h, Result.andThen_ok, Sem.run_pure]
  rw [Sem.run_bind, h']
  simp only [Result.andThen_ok, Sem.run_pure]
  match vs with
  | [] => rfl
  | [v] => rfl
  | v :: u :: l => simp [packV]

/-- The results are there, and what is handed back with them. -/
theorem Fin.done {P : Program} {G : GlP} {F : FE} (hΘ : TTok P F.Θ) {R : BL} {fn : Func} {r : AV} {gp : BL} {T : TL} {L : BL} (l : List AV) (hr : resA F.Θ T L fn.results.toList = some l) (hv : resV l = r)
    (hl : ∀ l o, getL (gp ++ R) l = some o → getL L l = some o) (hc : cloB (keyB (gp ++ R)) r = true) (hx : ∀ l o, getL (gp ++ R) l = some o → cloX (keyB (gp ++ R)) o = true) : Fin P G F R fn r gp T L := by
  refine ⟨fun E w μ a hE R' => ?_⟩
  obtain ⟨vs, h1, h2⟩ := resA_spec hΘ R' _ _ hr
  obtain ⟨μ', m1, m2, m3⟩ := R'.core.drop (gp ++ R) hl (fun l h => by
    have := hE.dom l h
    rw [getL_append]
    unfold ovr
    cases hb : getL gp l with
    | none => simpa using this
    | some o => rfl) hx
  refine ⟨_, μ', results_run h1, m2, ?_⟩
  have hcv : Cv w (E.O μ) r μ (packV vs) := by
    rw [← hv]
    match l, vs, h2 with
    | [], vs, h2 => simp only [CvL] at h2; subst h2; simp [packV, resV, Cv, CvL]
    | [x], vs, h2 =>
      simp only [CvL] at h2
      obtain ⟨v, us, rfl, h3, rfl⟩ := h2
      exact h3
    | x :: y :: l, vs, h2 =>
      have h2' := h2
      simp only [CvL] at h2
      obtain ⟨v, us, rfl, h3, u, us', rfl, h4, h5⟩ := h2
      simp only [resV, Cv]
      exact ⟨_, rfl, by simpa using h2'⟩
  exact (hcv.mono m3 _ (Keeps.refl _)).relabel m1 _ hc
end Go.Ab
/- The framework of abstract states, part 11: a function's contract out of its code. -/
set_option linter.unusedVariables false
set_option linter.unusedSimpArgs false
namespace Go.Ab

def argT : Nat → List AV → TL
  | _, [] => []
  | i, a :: l => (i, a) :: argT (i + 1) l
theorem argT_get : ∀ (l : List AV) (i t : Nat), getT (argT i l) t = if i ≤ t then (l[t - i]?).getD .dead else .dead
  | [], i, t => by simp [argT, getT]
  | a :: l, i, t => by
    simp only [argT, getT]
    cases hb : Nat.beq i t with
    | true => obtain rfl := Nat.eq_of_beq_eq_true hb; simp
    | false =>
      have hne : i ≠ t := fun e => by subst e; simp at hb
      simp only [cond_false, argT_get l (i + 1) t]
      by_cases h : i ≤ t
      · rw [if_pos (by omega), if_pos h, show t - i = (t - (i + 1)) + 1 from by omega]
        simp
      · rw [if_neg (by omega), if_neg h]

theorem cloL_mem {D : Lbl → Bool} : ∀ {as1 : List AV}, cloL D as1 = true → ∀ a ∈ as1, cloB D a = true
  | [], _, a, ha => by cases ha
  | b :: as1, h, a, ha => by
    simp only [cloL, Bool.and_eq_true] at h
    rcases List.mem_cons.1 ha with rfl | ha
    · exact h.1
    · exact cloL_mem h.2 a ha
def EndK (P : Program) (G : GlP) (F : FE) (R : BL) (fn : Func) (r : AV) (gp : BL) : AE → TL → BL → Prop
  | .exit _, _, _ => False
  | .normal, T, L => Fin P G F R fn r gp T L
  | .ret, T, L => Fin P G F R fn r gp T L

/-- What is seen inside of a call, or of a round; and how it is put together again behind it. -/
theorem inside {G : GlP} {E : Env} {w : World} {μ : Mu} {Lf : Lbl → Option ABox} (C : Core G E w μ Lf) {R : BL} {r : AV} {gp : BL}
    (hfp : ∀ l b, getL R l = some b → Lf l = some b) (hgp : ∀ l b, getL gp l = some b → (getL R l).isSome = true ∨ Lf l = none)
    (hcR : ∀ l o, getL R l = some o → cloX (keyB R) o = true) (hcr : cloB (keyB (gp ++ R)) r = true) (hcg : ∀ l o, getL (gp ++ R) l = some o → cloX (keyB (gp ++ R)) o = true) :
    ∃ (E1 : Env) (μ1 : Mu), (E1.w0 = w ∧ E1.μ0 = μ1) ∧ Core G E1 w μ1 (getL R) ∧ (∀ F : FE, EnvOK F R E1) ∧ (∀ (a : AV) (v : Value), cloB (keyB R) a = true → Cv w (E.O μ) a μ v → Cv w (E1.O μ1) a μ1 v) ∧
      (∀ l, keyB R l = true → μ1 l = μ l) ∧ ∀ (w' : World) (μ2 : Mu) (v : Value), Core G E1 w' μ2 (getL (gp ++ R)) → Cv w' (E1.O μ2) r μ2 v → After G E w μ Lf r gp v w' := by
  -- what is seen inside
  let μ1 : Mu := fun l => if keyB R l then μ l else none
  have hsub : ∀ l x, μ1 l = some x → μ l = some x ∧ keyB R l = true := fun l x h => by
    simp only [μ1] at h
    split at h
    · rename_i hk; exact ⟨h, hk⟩
    · cases h
  have hin : ∀ l, keyB R l = true → μ1 l = μ l := fun l h => by simp [μ1, h]
  have hown : ∀ b, own μ1 b → own μ b := fun b ⟨l, v, h⟩ => ⟨l, v, (hsub l _ h).1⟩
  let E1 : Env := ⟨w, μ1, fun b => E.X b ∨ (own μ b ∧ ¬ own μ1 b)⟩
  have hO : E1.O μ1 = E.O μ := by
    funext b
    refine propext ⟨?_, ?_⟩
    · rintro (h | h | h)
      · exact .inl (hown b h)
      · exact .inr h
      · exact .inl h.1
    · rintro (h | h)
      · by_cases h1 : own μ1 b
        · exact .inl h1
        · exact .inr (.inr ⟨h, h1⟩)
      · exact .inr (.inl h)
  have C1 : Core G E1 w μ1 (getL R) := by
    refine ⟨C.gl, Nat.le_trans C.ngw C.size, fun b h => C.ngo b (hown b h), fun b h => C.ownlt b (hown b h), ?_, ?_, ?_, fun l l' v v' b h h' => C.inj l l' v v' b (hsub _ _ h).1 (hsub _ _ h').1, fun l => ?_, fun l o ho => ?_, rfl, rfl, rfl, Nat.le_refl _, fun b _ _ => rfl, fun b h => .inl h, Keeps.refl _⟩
    · rintro b (h | h)
      · exact Nat.lt_of_lt_of_le (C.Xlt b h) C.size
      · exact C.ownlt b h.1
    · rintro b (h | h) h1
      · exact C.Xdis b h (hown b h1)
      · exact h.2 h1
    · rintro b (h | h)
      · exact C.Xng b h
      · exact C.ngo b h.1
    · cases hk : getL R l with
      | none => simp [μ1, keyB, hk]
      | some o =>
        have := C.dom l
        rw [hfp l o hk] at this
        simp [μ1, keyB, hk, this]
    · obtain ⟨v, ob, h1, h2⟩ := C.box l o (hfp l o ho)
      have hk : keyB R l = true := by simp [keyB, ho]
      refine ⟨v, ob, by rw [hin l hk]; exact h1, ?_⟩
      rw [hO]
      exact BoxR.relabel (D := keyB R) hin (hcR l o ho) h2
  have hE1 : ∀ F : FE, EnvOK F R E1 := fun F => ⟨fun l h => by
    simp only [E1] at h
    cases hx : μ1 l with
    | none => rw [hx] at h; cases h
    | some x => exact (hsub l x hx).2⟩
  refine ⟨E1, μ1, ⟨rfl, rfl⟩, C1, hE1, fun a v hc hv => ?_, hin, fun w' μ2 v C2 hc2 => ?_⟩
  · rw [hO]
    exact Cv.relabel (D := keyB R) hin a hc hv
  -- put together again
  let μ3 : Mu := fun l => if keyB (gp ++ R) l then μ2 l else μ l
  have hkey : ∀ l, keyB (gp ++ R) l = true → μ3 l = μ2 l := fun l h => by simp [μ3, h]
  have hnokey : ∀ l, keyB (gp ++ R) l = false → μ3 l = μ l := fun l h => by simp [μ3, h]
  have hkeyR : ∀ l, keyB R l = true → keyB (gp ++ R) l = true := fun l h => by
    unfold keyB at h ⊢
    rw [getL_append]
    unfold ovr
    cases hb : getL gp l with
    | none => simpa using h
    | some o => rfl
  have hgpR : ∀ l x, μ l = some x → keyB (gp ++ R) l = true → keyB R l = true := fun l x hx hk => by
    unfold keyB at hk
    rw [getL_append] at hk
    unfold ovr at hk
    cases hb : getL gp l with
    | none => rw [hb] at hk; exact hk
    | some o =>
      rcases hgp l o hb with h | h
      · exact h
      · have := C.dom l
        rw [hx, h] at this
        cases this
  have hμ2own : ∀ b, own μ2 b → own μ b ∨ w.heap.size ≤ b := fun b hb => (C2.fresh b hb).imp (hown b) id
  have hO3 : E1.O μ2 = E.O μ3 := by
    funext b
    refine propext ⟨?_, ?_⟩
    · rintro (⟨l, x, h⟩ | h | ⟨⟨l, x, h⟩, h1⟩)
      · refine .inl ⟨l, x, ?_⟩
        have hd := C2.dom l
        rw [h] at hd
        rw [hkey l hd.symm]
        exact h
      · exact .inr h
      · refine .inl ⟨l, x, ?_⟩
        cases hk : keyB (gp ++ R) l with
        | false => rw [hnokey l hk]; exact h
        | true =>
          have hR := hgpR l _ h hk
          exact absurd ⟨l, x, by rw [hin l hR]; exact h⟩ h1
    · rintro (⟨l, x, h⟩ | h)
      · cases hk : keyB (gp ++ R) l with
        | true => rw [hkey l hk] at h; exact .inl ⟨l, x, h⟩
        | false =>
          rw [hnokey l hk] at h
          refine .inr (.inr ⟨⟨l, x, h⟩, ?_⟩)
          rintro ⟨l', x', h'⟩
          obtain ⟨h1, h2⟩ := hsub l' _ h'
          obtain rfl := C.inj _ _ _ _ b h h1
          rw [hkeyR l h2] at hk
          cases hk
      · exact .inr (.inl h)
  have hstep := C.step (w' := w') (μ' := μ3) (L' := ovr Lf gp) C2.size C2.os C2.tape C2.output
    (fun b hb ho => C2.frame b hb fun h => ho (hown b h))
    (fun b ⟨l, x, h⟩ => by
      cases hk : keyB (gp ++ R) l with
      | true =>
        rw [hkey l hk] at h
        exact (hμ2own b ⟨l, x, h⟩).imp id fun hle => ⟨hle, C2.ownlt b ⟨l, x, h⟩⟩
      | false => rw [hnokey l hk] at h; exact .inl ⟨l, x, h⟩)
    (fun l x ob h => by
      cases hk : keyB (gp ++ R) l with
      | true =>
        have hR := hgpR l _ h hk
        obtain ⟨x', ob', h1, h2⟩ := C2.keep l x ob (by simp only [E1]; rw [hin l hR]; exact h)
        exact ⟨x', ob', by rw [hkey l hk]; exact h1, h2⟩
      | false => exact ⟨x, ob, by rw [hnokey l hk]; exact h, kp.refl x⟩)
    (fun l l' x x' b h h' => by
      have mixed : ∀ l l' x x', keyB (gp ++ R) l = true → keyB (gp ++ R) l' = false → μ2 l = some (x, some b) → μ l' = some (x', some b) → False := by
        intro l l' x x' hk hk' h h'
        rcases C2.fresh b ⟨l, x, h⟩ with ⟨k, y, h1⟩ | h1
        · obtain ⟨g1, g2⟩ := hsub k _ h1
          obtain rfl := C.inj _ _ _ _ b h' g1
          rw [hkeyR _ g2] at hk'
          cases hk'
        · have := C.ownlt b ⟨l', x', h'⟩
          simp only [E1] at h1
          omega
      cases hk : keyB (gp ++ R) l <;> cases hk' : keyB (gp ++ R) l'
      · rw [hnokey l hk] at h; rw [hnokey l' hk'] at h'; exact C.inj _ _ _ _ b h h'
      · rw [hnokey l hk] at h; rw [hkey l' hk'] at h'; exact (mixed l' l x' x hk' hk h' h).elim
      · rw [hkey l hk] at h; rw [hnokey l' hk'] at h'; exact (mixed l l' x x' hk hk' h h').elim
      · rw [hkey l hk] at h; rw [hkey l' hk'] at h'; exact C2.inj _ _ _ _ b h h')
    (fun l => by
      cases hk : keyB (gp ++ R) l with
      | true =>
        rw [hkey l hk, C2.dom l]
        unfold keyB at hk
        rw [hk]
        rw [getL_append] at hk
        unfold ovr at hk ⊢
        cases hb : getL gp l with
        | some o => rfl
        | none =>
          rw [hb] at hk
          cases hR : getL R l with
          | none => rw [hR] at hk; cases hk
          | some o => rw [hfp l o hR]; rfl
      | false =>
        rw [hnokey l hk, C.dom l]
        unfold keyB at hk
        rw [getL_append] at hk
        unfold ovr at hk ⊢
        cases hb : getL gp l with
        | some o => rw [hb] at hk; cases hk
        | none => rfl)
    (fun hla l o ho => by
      cases hk : keyB (gp ++ R) l with
      | true =>
        have hL2 : getL (gp ++ R) l = some o := by
          unfold keyB at hk
          rw [getL_append] at hk ⊢
          unfold ovr at hk ho ⊢
          cases hb : getL gp l with
          | some x => rw [hb] at ho; exact ho
          | none =>
            rw [hb] at hk ho
            cases hR : getL R l with
            | none => rw [hR] at hk; cases hk
            | some x => rw [hfp l x hR] at ho; exact ho
        obtain ⟨x, ob, h1, h2⟩ := C2.box l o hL2
        refine ⟨x, ob, by rw [hkey l hk]; exact h1, ?_⟩
        rw [hO3] at h2
        exact BoxR.relabel (D := keyB (gp ++ R)) hkey (hcg l o hL2) h2
      | false =>
        have hLf : Lf l = some o := by
          unfold keyB at hk
          rw [getL_append] at hk
          unfold ovr at hk ho
          cases hb : getL gp l with
          | some x => rw [hb] at hk; cases hk
          | none => rw [hb] at ho; exact ho
        have hkm : Keeps μ μ3 := fun l x ob h => by
          cases hk : keyB (gp ++ R) l with
          | true =>
            have hR := hgpR l _ h hk
            obtain ⟨x', ob', h1, h2⟩ := C2.keep l x ob (by simp only [E1]; rw [hin l hR]; exact h)
            exact ⟨x', ob', by rw [hkey l hk]; exact h1, h2⟩
          | false => exact ⟨x, ob, by rw [hnokey l hk]; exact h, kp.refl x⟩
        refine C.box_kept hla hkm hLf (hnokey l hk) fun x b hx => ?_
        refine C2.frame b (C.ownlt b ⟨l, x, hx⟩) ?_
        rintro ⟨l', x', h'⟩
        obtain ⟨g1, g2⟩ := hsub l' _ h'
        obtain rfl := C.inj _ _ _ _ b hx g1
        rw [hkeyR l g2] at hk
        cases hk)
  refine ⟨μ3, hstep.1, hstep.2, fun l x ob h => ?_, ?_⟩
  · cases hk : keyB (gp ++ R) l with
    | true =>
      have hR := hgpR l _ h hk
      obtain ⟨x', ob', h1, h2⟩ := C2.keep l x ob (by simp only [E1]; rw [hin l hR]; exact h)
      exact ⟨x', ob', by rw [hkey l hk]; exact h1, h2⟩
    | false => exact ⟨x, ob, by rw [hnokey l hk]; exact h, kp.refl x⟩
  · rw [← hO3]
    exact Cv.relabel (D := keyB (gp ++ R)) hkey r hcr hc2

/-- The marks are taken, one behind the other. -/
theorem Rep.leave {P : Program} {G : GlP} {E : Env} {N : Nat} {fn : Func} {Q : Ending → World → Prop} {μ : Mu} {S : SF} : ∀ (ds : List Deferred) {w : World} {a : Act}, a.defers = ds → Rep G E N w μ S a →
    (∀ w', Rep G E N w' μ S { a with defers := [] } → LeavesIn Fence.wide 0 P fn a.tmps Q [] .returning w') → LeavesInM Fence.wide 0 P fn a.tmps Q ds .returning w
  | [], w, a, hd, R, h => by
    obtain ⟨tm, df⟩ := a
    simp only at hd
    subst hd
    exact h w R
  | d :: ds, w, a, hd, R, h => by
    have hm := R.defers
    rw [hd] at hm
    obtain ⟨⟨r, rfl, h1, h2, h3, h4, h5⟩, hrest⟩ := hm
    refine ⟨by simp, .inl ⟨r, w.putObj r (.deferred none), rfl, run_takeDeferred h4, ?_⟩⟩
    have hother : ∀ k, k ≠ r → (w.putObj r (.deferred none)).heap[k]? = w.heap[k]? := fun k hk => World.putObj_heap_other hk
    have hsame : (w.putObj r (.deferred none)).heap[r]? = some (.deferred none) := World.putObj_heap_same h2
    have hcell : ∀ b o, (w.putObj r (.deferred none)).cell? ⟨b, o, none⟩ = w.cell? ⟨b, o, none⟩ := fun b o => by
      by_cases e : b = r
      · subst e
        simp [World.cell?, hsame, h4]
      · exact cell_eq (hother b e) o
    have later : LaterC w (E.O μ) (w.putObj r (.deferred none)) (E.O μ) := ⟨by simp, fun b _ ho => ⟨hcell b, ho⟩⟩
    have hown : ¬ own μ r := fun ho => h3 (.inl ho)
    have C2 : Core G E (w.putObj r (.deferred none)) μ S.2 := by
      have C := R.core
      refine ⟨?_, C.ngw, C.ngo, fun b h => by simpa using C.ownlt b h, C.Xlt, C.Xdis, C.Xng, C.inj, C.dom, fun l o h => ?_, C.os, C.tape, C.output, by simpa using C.size, fun b hb h0 => ?_, C.fresh, C.keep⟩
      · exact G.stable w _ (fun b hb => hother b (by have := C.ngw; omega)) C.gl
      · obtain ⟨v, ob, e1, e2⟩ := C.box l o h
        refine ⟨v, ob, e1, e2.monoC later (Keeps.refl _) fun b hb => hother b fun e => hown ⟨l, v, by rw [e1, hb, e]⟩⟩
      · rw [hother b (by omega)]
        exact C.frame b hb h0
    have hmarks : ∀ {ds : List Deferred}, Marks E w μ ds → (∀ d' ∈ ds, d' ≠ { target := .collected r, args := #[] }) → Marks E (w.putObj r (.deferred none)) μ ds := by
      intro ds
      induction ds with
      | nil => exact fun _ _ => trivial
      | cons d ds ih =>
        rintro ⟨⟨r', e, g1, g2, g3, g4, g5⟩, hr⟩ hne
        refine ⟨⟨r', e, g1, by simpa using g2, g3, ?_, g5⟩, ih hr fun d' hd => hne d' (List.mem_cons_of_mem _ hd)⟩
        rw [hother r' fun e' => hne d List.mem_cons_self (by rw [e, e'])]
        exact g4
    have R2 : Rep G E N (w.putObj r (.deferred none)) μ S { a with defers := ds } := ⟨C2, fun t => (R.tmps t).monoC later _ (Keeps.refl _), R.size, hmarks hrest h5⟩
    exact Rep.leave ds (a := { a with defers := ds }) rfl R2 h

theorem meets_intro {P : Program} {G : GlP} {F : FE} (hΘ : TTok P F.Θ) (hm : P.follows .mixedOrders = true) {f : FuncId} {fn : Func} {c : Code} {args : List AV} {R : BL} {r : AV} {gp : BL}
    (hf : P.funcs[f]? = some fn) (hb : fn.body = some c) (hcall : ∀ (a : Array Value) (w : World), (callFunc f a).run P w = .ok (.enter f a) w) (hN : F.N = args.length + (fn.ntmps - args.length))
    (hca : cloL (keyB R) args = true) (hcR : ∀ l o, getL R l = some o → cloX (keyB R) o = true) (hcr : cloB (keyB (gp ++ R)) r = true) (hcg : ∀ l o, getL (gp ++ R) l = some o → cloX (keyB (gp ++ R)) o = true)
    (h : acode P G F R c (argT 0 args) R (EndK P G F R fn r gp)) (hro : F.ro = none := by rfl) : Meets P G f args R r gp := by
  refine ⟨hcall, fun E w μ Lf vs C hfp hgp hv => ?_⟩
  obtain ⟨E1, μ1, hw0, C1, hE1, hcv, _, hback⟩ := inside C hfp hgp hcR hcr hcg
  have hlen := hv.length
  have R1 : Rep G E1 F.N w μ1 (getT (argT 0 args), getL R) { tmps := vs.toArray ++ Array.replicate (fn.ntmps - vs.toArray.size) undef, defers := [] } := by
    refine ⟨C1, fun t => ?_, by simp [hN, hlen], trivial⟩
    simp only [argT_get, Nat.zero_le, if_true, Nat.sub_zero]
    cases hg : args[t]? with
    | none => simp [Cv]
    | some a =>
      obtain ⟨x, hx, hc⟩ := hv.get t a hg
      have : (vs.toArray ++ Array.replicate (fn.ntmps - vs.toArray.size) undef).getD t undef = x := by
        rw [Array.getD_eq_getD_getElem?]
        have hlt : t < vs.length := (List.getElem?_eq_some_iff.1 hx).1
        rw [Array.getElem?_append_left (by simpa using hlt)]
        simp [hx]
      rw [this]
      exact hcv a x (cloL_mem hca a (List.mem_of_getElem? hg)) hc
  have hwp := acode_sound hΘ hm c (hE1 F) h R1
  rw [hro, wr_none] at hwp
  refine (callsIn_wide (n := 0)).1 (callsIn_of_wp_marks hf hb trivial (wpIn_mono hwp ?_))
  rintro e a' w' ⟨z, T', L', μ', rfl, R2, hK⟩
  have hfin : Fin P G F R fn r gp T' L' := by
    cases z with
    | normal => exact hK
    | ret => exact hK
    | exit i => exact hK.elim
  have hend : LeavesInM Fence.wide 0 P fn a'.tmps (fun e w' => ∃ v, e = .returned v ∧ After G E w μ Lf r gp v w') a'.defers .returning w' := by
    refine Rep.leave a'.defers rfl R2 fun w2 R3 => ?_
    obtain ⟨v, μ2, hr, C2, hc2⟩ := hfin.out E1 w2 μ' { a' with defers := [] } (hE1 F) R3
    exact ⟨v, hr, v, rfl, hback w2 μ2 v C2 hc2⟩
  cases z with
  | normal => exact hend
  | ret => exact hend
  | exit i => exact hK.elim
end Go.Ab
/- The framework of abstract states, part 12: tables of types; small words for proofs. -/
set_option linter.unusedVariables false
namespace Go.Ab

def TyOK (P : Program) (t : TypeId) (y : Ty) : Prop := ∃ i, P.underlying t = some y.d ∧ P.info? t = some i ∧ i.size = y.size ∧ i.bytes = y.bytes ∧ i.zero = some y.zero
inductive Tr where
  | leaf
  | node (k : Nat) (v : Ty) (l r : Tr)
def Tr.find : Tr → Nat → Option Ty
  | .leaf, _ => none
  | .node k v l r, t => cond (Nat.beq t k) (some v) (cond (Nat.blt t k) (l.find t) (r.find t))
def Tr.all (p : TypeId → Ty → Prop) : Tr → Prop
  | .leaf => True
  | .node k v l r => p k v ∧ l.all p ∧ r.all p
theorem Tr.all_find {p : TypeId → Ty → Prop} : ∀ {tr : Tr} {t : TypeId} {y : Ty}, tr.all p → tr.find t = some y → p t y
  | .leaf, t, y, _, h => by cases h
  | .node k v l r, t, y, ha, h => by
    simp only [Tr.find] at h
    cases hb : Nat.beq t k with
    | true =>
      rw [hb] at h
      obtain rfl := Nat.eq_of_beq_eq_true hb
      injection h with h
      subst h
      exact ha.1
    | false =>
      rw [hb] at h
      cases hc : Nat.blt t k with
      | true => rw [hc] at h; exact Tr.all_find ha.2.1 h
      | false => rw [hc] at h; exact Tr.all_find ha.2.2 h
theorem info_of_type {P : Program} {t : TypeId} {i : TypeInfo} (h : P.types[t]? = some i) : P.info? t = some i := by
  have hlt : t < P.types.size := (Array.getElem?_eq_some_iff.1 h).1
  unfold Tables.info?
  rw [if_pos hlt]
  exact h

theorem cond_split {b : Bool} {X Y : Prop} (h1 : b = true → X) (h2 : b = false → Y) : cond b X Y := by
  cases b
  · exact h2 rfl
  · exact h1 rfl
theorem WrapTo.i64 {e : Int} {K : Int → Prop} (h : -9223372036854775808 ≤ e ∧ e ≤ 9223372036854775807) (hK : K e) : WrapTo .i64 e K := ⟨e, by
  exact IntWalk.i64_in e h, hK⟩
theorem IndexTo.at {xs : List (List AV)} {i : Nat} {K : List AV → Prop} {c : List AV} (h : xs[i]? = some c) (hK : K c) : IndexTo xs (i : Int) K := ⟨c, by omega, by simpa using h, hK⟩

/-- No box came in. -/
theorem meets_pure {P : Program} {G : GlP} {F : FE} (hΘ : TTok P F.Θ) (hm : P.follows .mixedOrders = true) {f : FuncId} {fn : Func} {c : Code} {args : List AV} {r : AV}
    (hf : P.funcs[f]? = some fn) (hb : fn.body = some c) (hcall : ∀ (a : Array Value) (w : World), (callFunc f a).run P w = .ok (.enter f a) w) (hN : F.N = args.length + (fn.ntmps - args.length))
    (hca : cloL (keyB []) args = true) (hcr : cloB (keyB []) r = true)
    (h : acode P G F [] c (argT 0 args) [] (EndK P G F [] fn r [])) (hro : F.ro = none := by rfl) : Meets P G f args [] r [] :=
  meets_intro hΘ hm hf hb hcall hN hca (fun l o h => by simp [getL] at h) hcr (fun l o h => by simp [getL] at h) h hro
/-- The end of a function that hands back what it has in its temporaries. -/
theorem Fin.pure {P : Program} {G : GlP} {F : FE} (hΘ : TTok P F.Θ) {fn : Func} {r : AV} {T : TL} {L : BL} (l : List AV) (hr : resA F.Θ T L fn.results.toList = some l) (hv : resV l = r) (hc : cloB (keyB []) r = true) : Fin P G F [] fn r [] T L :=
  Fin.done hΘ l hr hv (fun l o h => by simp [getL] at h) hc (fun l o h => by simp [getL] at h)
end Go.Ab
namespace Go.Ab
theorem LoopOK.ind {P : Program} {G : GlP} {F : FE} {R : BL} {c : Code} {K : AE → TL → BL → Prop} {ι : Type} (m : ι → Nat) (St : ι → TL) (Lt : ι → BL) (Inv : ι → Prop)
    (step : ∀ x, Inv x → (∀ y, m y < m x → Inv y → LoopOK P G F R c (St y) (Lt y) K) → LoopOK P G F R c (St x) (Lt x) K) : ∀ x, Inv x → LoopOK P G F R c (St x) (Lt x) K := by
  have key : ∀ n x, m x = n → Inv x → LoopOK P G F R c (St x) (Lt x) K := by
    intro n
    induction n using Nat.strongRecOn with
    | _ n ih =>
      intro x hx hI
      exact step x hI fun y hy hIy => ih (m y) (hx ▸ hy) y rfl hIy
  exact fun x hI => key _ x rfl hI
end Go.Ab
/- The framework of abstract states, part 13: an abstract state taken for another that says less: rows that are written no more, slices without elements. -/
set_option linter.unusedVariables false
set_option linter.unusedSimpArgs false
namespace Go.Ab

abbrev ZL := List (Lbl × ABox)
mutual
inductive LeZ : ZL → AV → AV → Prop
  | refl {Z : ZL} (a : AV) : LeZ Z a a
  | emp {Z : ZL} (sz : Nat) : LeZ Z .emp (.lst sz [])
  | own {Z : ZL} {l : Lbl} {n sz : Nat} {e : TypeId} {xs : List (List AV)} (h : (l, .row e sz xs) ∈ Z) (hn : xs.length = n) : LeZ Z (.own l n) (.lst sz xs)
  | ref {Z : ZL} {l : Lbl} {n : Nat} {e : TypeId} {cs : List AV} (h : (l, .cells e cs) ∈ Z) : LeZ Z (.ref l n) (.pp (cs.drop n))
  | agg {Z : ZL} {cs ds : List AV} (h : LeL Z cs ds) : LeZ Z (.agg cs) (.agg ds)
  | tup {Z : ZL} {cs ds : List AV} (h : LeL Z cs ds) : LeZ Z (.tup cs) (.tup ds)
  | fn {Z : ZL} {f : Fn} {as1 bs cs ds : List AV} (h : LeL Z as1 cs) (h' : LeL Z bs ds) : LeZ Z (.fn f as1 bs) (.fn f cs ds)
inductive LeL : ZL → List AV → List AV → Prop
  | refl {Z : ZL} (l : List AV) : LeL Z l l
  | cons {Z : ZL} {a b : AV} {as1 bs : List AV} (h : LeZ Z a b) (h' : LeL Z as1 bs) : LeL Z (a :: as1) (b :: bs)
end
inductive LeX : ZL → ABox → ABox → Prop
  | refl {Z : ZL} (o : ABox) : LeX Z o o
  | cells {Z : ZL} {e : TypeId} {cs ds : List AV} (h : LeL Z cs ds) : LeX Z (.cells e cs) (.cells e ds)

theorem LeZ.one {Z : ZL} {a b : AV} (h : LeZ Z a b) (h1 : a.one = true) : b.one = true := by
  cases h <;> first | exact h1 | rfl | cases h1
theorem LeL.allOne {Z : ZL} : ∀ {as1 bs : List AV}, LeL Z as1 bs → allOne as1 → allOne bs
  | _, _, .refl l, h => h
  | _, _, .cons h h', ho => by
    intro c hc
    rcases List.mem_cons.1 hc with rfl | hc
    · exact h.one (ho _ List.mem_cons_self)
    · exact LeL.allOne h' (fun d hd => ho d (List.mem_cons_of_mem _ hd)) c hc

/-- What is asked of the rows that are given up. -/
structure Given (w : World) (O O' : Nat → Prop) (Z : ZL) (μ : Mu) : Prop where
  later : Later w O w O'
  rows : ∀ l e sz xs, (l, .row e sz xs) ∈ Z → ∃ A cap ob, μ l = some (.slice A xs.length cap, ob) ∧ Cv w O' (.lst sz xs) (fun _ => none) (.slice A xs.length cap)
  boxes : ∀ l e cs, (l, .cells e cs) ∈ Z → ∃ b ob, μ l = some (.pointer (some ⟨b, 0, none⟩), ob) ∧ b < w.heap.size ∧ ¬ O' b ∧ CvC w O' cs b 0

mutual
theorem LeZ.keep {w : World} {O O' : Nat → Prop} {Z : ZL} {μ μ' : Mu} {D : Lbl → Bool} (hg : Given w O O' Z μ) (hμ : ∀ l, D l = true → μ' l = μ l) : ∀ {a b : AV} {v : Value}, LeZ Z a b → cloB D b = true → Cv w O a μ v → Cv w O' b μ' v
  | _, _, v, .refl a, hc, h => Cv.relabel hμ a hc (h.mono hg.later a (Keeps.refl _))
  | _, _, v, .emp sz, hc, h => by
    simp only [Cv] at h ⊢
    obtain ⟨A, rfl⟩ := h
    exact ⟨A, 0, rfl, Nat.le_refl _, Nat.zero_le _, .inl (by first | rfl | trivial)⟩
  | _, _, v, .ref (l := l) (n := n) (e := e) (cs := cs) hz, hc, h => by
    obtain ⟨b, ob, h1, h2, h3, h4⟩ := hg.boxes l e cs hz
    simp only [Cv] at h ⊢
    obtain ⟨b', ob', g1, g2⟩ := h
    rw [h1] at g1
    injection g1 with g1
    injection g1 with g1 _
    injection g1 with g1
    injection g1 with g1
    injection g1 with g1
    subst g1
    have := h4.drop n
    rw [Nat.zero_add] at this
    exact ⟨b, n, g2, h2, h3, this⟩
  | _, _, v, .own (l := l) (sz := sz) (e := e) (xs := xs) hz hn, hc, h => by
    obtain ⟨A, cap, ob, h1, h2⟩ := hg.rows l e sz xs hz
    simp only [Cv] at h
    obtain ⟨A', m, cap', ob', g1, g2, g3, _⟩ := h
    rw [h1] at g1
    injection g1 with g1
    injection g1 with g1 _
    injection g1 with e1 e2 e3
    subst e1 e2 e3
    rw [g3 hn]
    simpa only [Cv] using h2
  | _, _, v, .agg hl, hc, h => by
    simp only [cloB] at hc
    simp only [Cv] at h ⊢
    obtain ⟨vs, h1, h2, h3⟩ := h
    exact ⟨vs, h1, LeL.keep hg hμ hl hc h2, hl.allOne h3⟩
  | _, _, v, .tup hl, hc, h => by
    simp only [cloB] at hc
    simp only [Cv] at h ⊢
    obtain ⟨vs, h1, h2⟩ := h
    exact ⟨vs, h1, LeL.keep hg hμ hl hc h2⟩
  | _, _, v, .fn hl hl', hc, h => by
    simp only [cloB, Bool.and_eq_true] at hc
    simp only [Cv] at h ⊢
    obtain ⟨xs, ys, h1, h2, h3⟩ := h
    exact ⟨xs, ys, h1, LeL.keep hg hμ hl hc.1 h2, LeL.keep hg hμ hl' hc.2 h3⟩
theorem LeL.keep {w : World} {O O' : Nat → Prop} {Z : ZL} {μ μ' : Mu} {D : Lbl → Bool} (hg : Given w O O' Z μ) (hμ : ∀ l, D l = true → μ' l = μ l) : ∀ {as1 bs : List AV} {vs : List Value}, LeL Z as1 bs → cloL D bs = true → CvL w O as1 μ vs → CvL w O' bs μ' vs
  | _, _, vs, .refl l, hc, h => CvL.relabel hμ l hc (h.mono hg.later l (Keeps.refl _))
  | _, _, vs, .cons h1 h2, hc, h => by
    simp only [cloL, Bool.and_eq_true] at hc
    simp only [CvL] at h ⊢
    obtain ⟨x, xs, e, g1, g2⟩ := h
    exact ⟨x, xs, e, LeZ.keep hg hμ h1 hc.1 g1, LeL.keep hg hμ h2 hc.2 g2⟩
end

/-- Labels are dropped, rows given up, boxes told less of. -/
theorem Core.less {G : GlP} {E : Env} {w : World} {μ : Mu} {L : Lbl → Option ABox} (C : Core G E w μ L) (L' : BL) (Z : ZL) (hl : ∀ l o, getL L' l = some o → ∃ o0, L l = some o0 ∧ LeX Z o0 o)
    (h0 : ∀ l, (E.μ0 l).isSome = true → (getL L' l).isSome = true) (hc : ∀ l o, getL L' l = some o → cloX (keyB L') o = true)
    (hZ : ∀ l o, (l, o) ∈ Z → L l = some o ∧ cloX (fun _ => false) o = true ∧ keyB L' l = false) :
    ∃ μ', (∀ l, keyB L' l = true → μ' l = μ l) ∧ Core G E w μ' (getL L') ∧ Given w (E.O μ) (E.O μ') Z μ := by
  refine ⟨fun l => if keyB L' l then μ l else none, fun l h => by simp [h], ?_⟩
  have hsub : ∀ l x, (if keyB L' l then μ l else none) = some x → μ l = some x ∧ keyB L' l = true := fun l x h => by
    split at h
    · rename_i hk; exact ⟨h, hk⟩
    · cases h
  have hown : ∀ b, own (fun l => if keyB L' l then μ l else none) b → own μ b := fun b ⟨l, v, h⟩ => ⟨l, v, (hsub l _ h).1⟩
  have later : Later w (E.O μ) w (E.O fun l => if keyB L' l then μ l else none) := ⟨Nat.le_refl _, fun b _ ho => ⟨rfl, fun h => ho (h.imp (hown b) id)⟩⟩
  have given : Given w (E.O μ) (E.O fun l => if keyB L' l then μ l else none) Z μ := by
    refine ⟨later, fun l e sz xs hz => ?_, fun l e cs hz => ?_⟩
    rotate_left
    · obtain ⟨hr, hfree, hk⟩ := hZ l _ hz
      obtain ⟨v, ob, h1, b, vs, rfl, rfl, h2, h3, h4⟩ := C.box l _ hr
      refine ⟨b, _, h1, C.ownlt b ⟨l, _, h1⟩, ?_, ?_⟩
      · rintro (⟨l', v', h'⟩ | h')
        · obtain ⟨g1, g2⟩ := hsub l' _ h'
          obtain rfl := C.inj _ _ _ _ b h1 g1
          rw [hk] at g2
          cases g2
        · exact C.Xdis b h' ⟨l, _, h1⟩
      · have hvs := (h3.mono later _ (Keeps.refl _)).relabel (D := fun _ => false) (μ' := fun _ => none) (fun l h => by cases h) _ hfree
        exact CvC.of_cells h2 hvs h4 fun j v hj => by simpa using hj
    obtain ⟨hr, hfree, hk⟩ := hZ l _ hz
    obtain ⟨v, ob, h1, A, cap, vs, rfl, h2, h3, h4, h5, h6⟩ := C.box l _ hr
    refine ⟨A, cap, ob, h1, ?_⟩
    simp only [Cv]
    refine ⟨A, cap, rfl, h2, h3, ?_⟩
    rcases h6 with ⟨h6, _⟩ | ⟨b, sp, rfl, rfl, hb, hbl⟩
    · exact .inl (List.eq_nil_of_length_eq_zero (by omega))
    · refine .inr ⟨b, 0, rfl, C.ownlt b ⟨l, _, h1⟩, ?_, ?_⟩
      · rintro (⟨l', v', h'⟩ | h')
        · obtain ⟨g1, g2⟩ := hsub l' _ h'
          obtain rfl := C.inj _ _ _ _ b h1 g1
          rw [hk] at g2
          cases g2
        · exact C.Xdis b h' ⟨l, _, h1⟩
      · have hvs := (h5.1.mono later _ (Keeps.refl _)).relabel (D := fun _ => false) (μ' := fun _ => none) (fun l h => by cases h) _ hfree
        refine CvR.of_cells hb hvs h5.2 h4 fun j v hj => ?_
        have hlt : j < vs.length := (List.getElem?_eq_some_iff.1 hj).1
        simp only [Nat.zero_add, List.getElem?_toArray]
        rw [List.getElem?_append_left hlt]
        exact hj
  refine ⟨⟨C.gl, C.ngw, fun b h => C.ngo b (hown b h), fun b h => C.ownlt b (hown b h), C.Xlt, fun b hx h => C.Xdis b hx (hown b h), C.Xng, fun l l' v v' b h h' => C.inj l l' v v' b (hsub _ _ h).1 (hsub _ _ h').1, fun l => ?_, fun l o h => ?_,
    C.os, C.tape, C.output, C.size, C.frame, fun b h => C.fresh b (hown b h), fun l v ob h => ?_⟩, given⟩
  · cases hk : getL L' l with
    | none => simp [keyB, hk]
    | some o =>
      obtain ⟨o0, g1, _⟩ := hl l o hk
      have := C.dom l
      rw [g1] at this
      simp [keyB, hk, this]
  · obtain ⟨o0, g1, g2⟩ := hl l o h
    obtain ⟨v, ob, h1, h2⟩ := C.box l o0 g1
    have hk : keyB L' l = true := by simp [keyB, h]
    refine ⟨v, ob, by simp [hk, h1], ?_⟩
    have hclo := hc l o h
    cases g2 with
    | refl => exact BoxR.relabel (D := keyB L') (μ := μ) (fun l h => by simp [h]) hclo (h2.mono later (Keeps.refl _) fun b _ => rfl)
    | cells hle =>
      obtain ⟨b, vs, k1, k2, k3, k4, k5⟩ := h2
      exact ⟨b, vs, k1, k2, k3, hle.keep given (D := keyB L') (fun l h => by simp [h]) hclo k4, hle.allOne k5⟩
  · obtain ⟨v', ob', h1, h2⟩ := C.keep l v ob h
    have hk : keyB L' l = true := h0 l (by rw [h]; rfl)
    exact ⟨v', ob', by simp [hk, h1], h2⟩

def SubZ (Z : ZL) : TL → TL → Prop
  | [], _ => True
  | (k, v) :: r, T => LeZ Z (getT T k) v ∧ SubZ Z r T
def SubX (Z : ZL) : BL → BL → Prop
  | [], _ => True
  | (l, o) :: r, L => (∃ o0, getL L l = some o0 ∧ LeX Z o0 o) ∧ SubX Z r L
theorem SubZ.spec {Z : ZL} {T : TL} : ∀ {T' : TL}, SubZ Z T' T → ∀ k, getT T' k = .dead ∨ LeZ Z (getT T k) (getT T' k)
  | [], h, k => .inl rfl
  | (j, v) :: r, h, k => by
    simp only [getT]
    cases hb : Nat.beq j k with
    | false => exact SubZ.spec h.2 k
    | true => obtain rfl := Nat.eq_of_beq_eq_true hb; exact .inr h.1
theorem SubX.spec {Z : ZL} {L : BL} : ∀ {L' : BL}, SubX Z L' L → ∀ l o, getL L' l = some o → ∃ o0, getL L l = some o0 ∧ LeX Z o0 o
  | [], h, l, o, e => by simp [getL] at e
  | (j, v) :: r, h, l, o, e => by
    simp only [getL] at e
    cases hb : lbeq j l with
    | false => rw [hb] at e; exact SubX.spec h.2 l o e
    | true => rw [hb] at e; rw [← lbeq_iff.1 hb]; injection e with e; subst e; exact h.1
def RowsZ (L L' : BL) : ZL → Prop
  | [] => True
  | (l, o) :: r => getL L l = some o ∧ cloX (fun _ => false) o = true ∧ keyB L' l = false ∧ RowsZ L L' r
theorem RowsZ.spec {L L' : BL} : ∀ {Z : ZL}, RowsZ L L' Z → ∀ l o, (l, o) ∈ Z → getL L l = some o ∧ cloX (fun _ => false) o = true ∧ keyB L' l = false
  | [], h, l, o, hm => by cases hm
  | (k, s) :: r, h, l, o, hm => by
    rcases List.mem_cons.1 hm with e | hm
    · injection e with e1 e2
      subst e1 e2
      exact ⟨h.1, h.2.1, h.2.2.1⟩
    · exact RowsZ.spec h.2.2.2 l o hm

theorem cloT_of {T' : TL} {D : Lbl → Bool} (hc : ∀ p ∈ T', cloB D p.2 = true) (k : Nat) : cloB D (getT T' k) = true := by
  induction T' with
  | nil => rfl
  | cons p r ih =>
    obtain ⟨j, v⟩ := p
    simp only [getT]
    cases hb : Nat.beq j k with
    | true => exact hc _ List.mem_cons_self
    | false => exact ih fun q hq => hc q (List.mem_cons_of_mem _ hq)

theorem Conv.less {G : GlP} {F : FE} {R : BL} {T : TL} {L : BL} {T' : TL} {L' : BL} (Z : ZL) (ht : SubZ Z T' T) (hl : SubX Z L' L) (hZ : RowsZ L L' Z) (hc : cloChk R T' L' = true) : Conv G F R T L T' L' := by
  intro E w μ a hE h0
  unfold cloChk at hc
  simp only [Bool.and_eq_true, List.all_eq_true] at hc
  obtain ⟨μ', h1, h2, h3⟩ := h0.core.less L' Z hl.spec (fun l hl => by
      have hr := hE.dom l hl
      cases hg : getL R l with
      | none => rw [hg] at hr; cases hr
      | some o => exact hc.2 _ (getL_mem hg)) (fun l o h => hc.1.2 _ (getL_mem h)) hZ.spec
  refine ⟨μ', h2, fun k => ?_, h0.size, h0.defers.mono h3.later⟩
  have hk := h0.tmps k
  simp only at *
  rcases ht.spec k with e | e
  · rw [e]
    simp [Cv]
  · exact e.keep h3 (D := keyB L') h1 (cloT_of hc.1.1 k) hk

theorem CodeTo.less {P : Program} {G : GlP} {F : FE} {R : BL} {c : Code} {T : TL} {L : BL} (Z : ZL) (T' : TL) (L' : BL) {K : AE → TL → BL → Prop} (ht : SubZ Z T' T) (hl : SubX Z L' L) (hZ : RowsZ L L' Z) (hc : cloChk R T' L' = true)
    (h : CodeTo P G F R c T' L' K) : CodeTo P G F R c T L K := h.conv (Conv.less Z ht hl hZ hc)
theorem CodeTo.go {P : Program} {G : GlP} {F : FE} {R : BL} (hΘ : TTok P F.Θ) (hm : P.follows .mixedOrders = true) {id : Nat} {ops : Array Oper} {draw : Bool} {T : TL} {L : BL} {K : AE → TL → BL → Prop} (h : areg P G F id ops draw T L K) : CodeTo P G F R (.region id ops draw) T L K :=
  areg_sound hΘ hm h
theorem LoopOK.less {P : Program} {G : GlP} {F : FE} {R : BL} {c : Code} {T : TL} {L : BL} (Z : ZL) (T' : TL) (L' : BL) {K : AE → TL → BL → Prop} (ht : SubZ Z T' T) (hl : SubX Z L' L) (hZ : RowsZ L L' Z) (hc : cloChk R T' L' = true)
    (h : LoopOK P G F R c T' L' K) : LoopOK P G F R c T L K := h.conv (Conv.less Z ht hl hZ hc)
theorem Fin.less {P : Program} {G : GlP} {F : FE} {R : BL} {fn : Func} {r : AV} {gp : BL} {T : TL} {L : BL} (Z : ZL) (T' : TL) (L' : BL) (ht : SubZ Z T' T) (hl : SubX Z L' L) (hZ : RowsZ L L' Z) (hc : cloChk R T' L' = true)
    (h : Fin P G F R fn r gp T' L') : Fin P G F R fn r gp T L := h.conv (Conv.less Z ht hl hZ hc)

mutual
theorem cloB_true : ∀ (a : AV), cloB (fun _ => true) a = true
  | .own l n => rfl
  | .ref l n => rfl
  | .rp l n o => rfl
  | .mp l => rfl
  | .yv l => rfl
  | .agg cs => by simp only [cloB]; exact cloL_true cs
  | .fn f a b => by simp only [cloB, Bool.and_eq_true]; exact ⟨cloL_true a, cloL_true b⟩
  | .iface t v => by simp only [cloB]; exact cloB_true v
  | .tup vs => by simp only [cloB]; exact cloL_true vs
  | .int k n => rfl
  | .bool b => rfl
  | .ub => rfl
  | .str s => rfl
  | .lst sz xs => rfl
  | .emp => rfl
  | .pp cs => rfl
  | .nilp => rfl
  | .nilf => rfl
  | .nili => rfl
  | .nilm => rfl
  | .gp g => rfl
  | .dead => rfl
theorem cloL_true : ∀ (l : List AV), cloL (fun _ => true) l = true
  | [] => rfl
  | a :: l => by simp only [cloL, Bool.and_eq_true]; exact ⟨cloB_true a, cloL_true l⟩
end
/-- A contract at arguments of which more is known. -/
theorem Meets.args {P : Program} {G : GlP} {f : FuncId} {as1 bs : List AV} {fp : BL} {r : AV} {gp : BL} (h : Meets P G f bs fp r gp) (hl : LeL [] as1 bs) : Meets P G f as1 fp r gp :=
  ⟨h.enters, fun E w μ Lf vs C hf hg hv => h.calls E w μ Lf vs C hf hg (hl.keep (D := fun _ => true) (μ := μ) (μ' := μ) ⟨Later.refl _ _, (fun l e sz xs hm => by cases hm), (fun l e cs hm => by cases hm)⟩ (fun _ _ => rfl) (cloL_true bs) hv)⟩
/-- A contract of whose result less is told. -/
theorem Meets.res {P : Program} {G : GlP} {f : FuncId} {as1 : List AV} {fp : BL} {r r' : AV} {gp : BL} (h : Meets P G f as1 fp r gp) (hl : LeZ [] r r') : Meets P G f as1 fp r' gp :=
  ⟨h.enters, fun E w μ Lf vs C hf hg hv => (h.calls E w μ Lf vs C hf hg hv).mono fun e w' ⟨v, he, μ', h1, h2, h3, h4⟩ =>
    ⟨v, he, μ', h1, h2, h3, hl.keep (D := fun _ => true) (μ := μ') (μ' := μ') ⟨Later.refl _ _, (fun l e sz xs hm => by cases hm), (fun l e cs hm => by cases hm)⟩ (fun _ _ => rfl) (cloB_true r') h4⟩⟩
end Go.Ab
/- The framework of abstract states, part 14: what is shown of the operations that the reckoning leaves open. -/
set_option linter.unusedVariables false
set_option linter.unusedSimpArgs false
namespace Go.Ab
section
variable {P : Program} {G : GlP} {Θ : TT} {o : Oper} {T : TL} {L : BL} {K : AV → BL → Nat → Prop}

theorem OpTo.reads {l : Lbl} {x : ABox} {r : AV} (h : Tri P G o (ev T) [(l, x)] r []) (hl : getL L l = some x) (hK : K r [] (rdC l)) : OpTo P G o T L K :=
  mk_out h (getL_one_imp hl) (fun l b e => by simp [getL] at e) Cls.rd hK
theorem OpTo.writes {l : Lbl} {x x' : ABox} {r : AV} (h : Tri P G o (ev T) [(l, x)] r [(l, x')]) (hl : getL L l = some x) (hK : K r [(l, x')] (wrC l)) : OpTo P G o T L K :=
  mk_out h (getL_one_imp hl) getL_one_same Cls.wr hK
theorem OpTo.makes {l : Lbl} {x : ABox} {r : AV} (h : Tri P G o (ev T) [] r [(l, x)]) (hl : getL L l = none) (hK : K r [(l, x)] (mkC l)) : OpTo P G o T L K :=
  mk_out h (fun l b e => by simp [getL] at e) (getL_one_none hl) Cls.mk_ hK

theorem OpTo.eqA (hΘ : TTok P Θ) {t t' : TypeId} {x y : Operand} {ks : List CK} {cs ds : List AV} {r : Bool} (hk : EqOK P Θ t ks) (ho : o.op = .binOp .eql t x y t') (hx : ev T x = .agg cs) (hy : ev T y = .agg ds)
    (h1 : fitL ks cs = true) (h2 : fitL ks ds = true) (hr : eqCells cs ds = some r) (hK : K (.bool r) [] 0) : OpTo P G o T L K :=
  mk_pure (tri_eqAgg hΘ .eql (.inl rfl) t t' x y ho ks hk cs ds hx hy h1 h2 r hr) hK
theorem OpTo.neA (hΘ : TTok P Θ) {t t' : TypeId} {x y : Operand} {ks : List CK} {cs ds : List AV} {r : Bool} (hk : EqOK P Θ t ks) (ho : o.op = .binOp .neq t x y t') (hx : ev T x = .agg cs) (hy : ev T y = .agg ds)
    (h1 : fitL ks cs = true) (h2 : fitL ks ds = true) (hr : eqCells cs ds = some r) (hK : K (.bool (!r)) [] 0) : OpTo P G o T L K :=
  mk_pure (tri_eqAgg hΘ .neq (.inr rfl) t t' x y ho ks hk cs ds hx hy h1 h2 r hr) hK
theorem OpTo.nilS (hΘ : TTok P Θ) {op : BinOp} {t t' : TypeId} {x : Operand} {y : Ty} {e : TypeId} (ho : o.op = .binOp op t x (.const (.slice none 0 0)) t') (hop : op = .eql ∨ op = .neq) (hy : Θ t = some y) (hd : y.d = .slice e)
    (hx : match ev T x with | .lst _ _ => True | .emp => True | .own _ _ => True | _ => False) (hK : K .ub [] 0) : OpTo P G o T L K :=
  mk_pure (tri_nil_slice hΘ op hop t t' x ho y e hy hd hx) hK
theorem OpTo.nilL (hΘ : TTok P Θ) {op : BinOp} {t t' : TypeId} {x : Operand} {y : Ty} {e : TypeId} {sz : Nat} {xs : List (List AV)} (hne : xs ≠ []) (ho : o.op = .binOp op t x (.const (.slice none 0 0)) t') (hop : op = .eql ∨ op = .neq) (hy : Θ t = some y) (hd : y.d = .slice e)
    (hx : ev T x = .lst sz xs) (hK : K (.bool (!isEq op)) [] 0) : OpTo P G o T L K :=
  mk_pure (tri_nil_lst hΘ op hop t t' x ho y e hy hd sz xs hx hne) hK
theorem OpTo.eqP (hΘ : TTok P Θ) {t t' : TypeId} {x y : Operand} {z : Ty} {e : TypeId} {b : Bool} (ho : o.op = .binOp .eql t x y t') (hz : Θ t = some z) (hd : z.d = .pointer e)
    (hy : ev T y = .nilp) (hb : nilPtr (ev T x) = some b) (hK : K (.bool b) [] 0) : OpTo P G o T L K :=
  mk_pure (tri_nil_ptr hΘ .eql (.inl rfl) t t' x y ho z e hz hd hy b hb) hK
theorem OpTo.neP (hΘ : TTok P Θ) {t t' : TypeId} {x y : Operand} {z : Ty} {e : TypeId} {b : Bool} (ho : o.op = .binOp .neq t x y t') (hz : Θ t = some z) (hd : z.d = .pointer e)
    (hy : ev T y = .nilp) (hb : nilPtr (ev T x) = some b) (hK : K (.bool (!b)) [] 0) : OpTo P G o T L K :=
  mk_pure (tri_nil_ptr hΘ .neq (.inr rfl) t t' x y ho z e hz hd hy b hb) hK
theorem OpTo.quo {t t' : TypeId} {x y : Operand} {k : IntKind} {a b c : Int} (ho : o.op = .binOp .quo t x y t') (hx : ev T x = .int k a) (hy : ev T y = .int k b) (hb : b ≠ 0) (hc : k.wrap (a.tdiv b) = c) (hK : K (.int k c) [] 0) : OpTo P G o T L K :=
  mk_pure (tri_quo .quo t t' x y ho k a b hx hy hb c (.inl ⟨rfl, hc⟩)) hK
theorem OpTo.rem {t t' : TypeId} {x y : Operand} {k : IntKind} {a b c : Int} (ho : o.op = .binOp .rem t x y t') (hx : ev T x = .int k a) (hy : ev T y = .int k b) (hb : b ≠ 0) (hc : a.tmod b = c) (hK : K (.int k c) [] 0) : OpTo P G o T L K :=
  mk_pure (tri_quo .rem t t' x y ho k a b hx hy hb c (.inr ⟨rfl, hc⟩)) hK
theorem OpTo.min {x y : Operand} {tys : Array TypeId} {k : IntKind} {a b : Int} (ho : o.op = .call { callee := .builtin .min, args := #[x, y], argTypes := tys }) (hx : ev T x = .int k a) (hy : ev T y = .int k b) (hK : K (.int k (min a b)) [] 0) : OpTo P G o T L K :=
  mk_pure (tri_minmax .min x y tys ho k a b hx hy _ (.inl ⟨rfl, rfl⟩)) hK
theorem OpTo.max {x y : Operand} {tys : Array TypeId} {k : IntKind} {a b : Int} (ho : o.op = .call { callee := .builtin .max, args := #[x, y], argTypes := tys }) (hx : ev T x = .int k a) (hy : ev T y = .int k b) (hK : K (.int k (max a b)) [] 0) : OpTo P G o T L K :=
  mk_pure (tri_minmax .max x y tys ho k a b hx hy _ (.inr ⟨rfl, rfl⟩)) hK
theorem OpTo.cut (hΘ : TTok P Θ) {t : TypeId} {x : Operand} {lo hi : Option Operand} {y z : Ty} {e : TypeId} {sz : Nat} {xs : List (List AV)} (a b : Nat) (ho : o.op = .slice t x lo hi none) (hy : Θ t = some y) (hd : y.d = .slice e) (hz : Θ e = some z) (hsz : z.size = sz)
    (hx : ev T x = .lst sz xs) (ha : bdOK (ev T) lo 0 a) (hb : bdOK (ev T) hi xs.length b) (hab : a ≤ b) (hbs : b ≤ xs.length) (hK : K (.lst sz ((xs.take b).drop a)) [] 0) : OpTo P G o T L K :=
  mk_pure (tri_slice_lst hΘ t x lo hi ho y z e hy hd hz sz hsz xs hx a b ha hb hab hbs) hK
theorem OpTo.cut0 (hΘ : TTok P Θ) {t : TypeId} {x q1 q2 : Operand} {lo : Option Operand} {y z : Ty} {e : TypeId} {k1 k2 : IntKind} (ho : o.op = .slice t x lo (some q1) (some q2)) (hy : Θ t = some y) (hd : y.d = .slice e) (hz : Θ e = some z)
    (hx : match ev T x with | .lst _ _ => True | .emp => True | .own _ _ => True | _ => False) (hlo : bdOK (ev T) lo 0 0) (h1 : ev T q1 = .int k1 0) (h2 : ev T q2 = .int k2 0) (hK : K .emp [] 0) : OpTo P G o T L K :=
  mk_pure (tri_slice_zero hΘ t x q1 q2 lo ho y z e hy hd hz hx hlo k1 k2 h1 h2) hK
theorem OpTo.cutS (hΘ : TTok P Θ) {t : TypeId} {x : Operand} {lo hi : Option Operand} {y : Ty} {s : Str} (a b : Nat) (ho : o.op = .slice t x lo hi none) (hy : Θ t = some y) (hd : y.d = .string)
    (hx : ev T x = .str s) (ha : bdOK (ev T) lo 0 a) (hb : bdOK (ev T) hi s.length b) (hab : a ≤ b) (hbs : b ≤ s.length) (hK : K (.str ((s.take b).drop a)) [] 0) : OpTo P G o T L K :=
  mk_pure (tri_slice_str hΘ t x lo hi ho y hy hd s hx a b (by cases lo <;> exact ha) (by cases hi <;> exact hb) hab hbs) hK
theorem OpTo.at (hΘ : TTok P Θ) {t : TypeId} {x ix : Operand} {y z : Ty} {n : Nat} {e : TypeId} {cs : List AV} {k : IntKind} {i : Nat} {c : AV} (ho : o.op = .index t x ix) (hy : Θ t = some y) (hd : y.d = .array n e) (hz : Θ e = some z) (hone : z.agg = false) (hsz : z.size = 1)
    (hx : ev T x = .agg cs) (hi : ev T ix = .int k i) (hlt : i < n) (hc : cs[i]? = some c) (hK : K c [] 0) : OpTo P G o T L K :=
  mk_pure (tri_index_agg hΘ t x ix ho y z n e hy hd hz hone hsz cs hx k i hi hlt c hc) hK
theorem OpTo.arrAt (hΘ : TTok P Θ) {t : TypeId} {x ix : Operand} {y z : Ty} {n : Nat} {e : TypeId} {l : Lbl} {off : Nat} {k : IntKind} {i : Nat} (ho : o.op = .indexAddr t x ix) (hy : Θ t = some y) (hd : y.d = .array n e) (hz : Θ e = some z)
    (hx : ev T x = .ref l off) (hi : ev T ix = .int k i) (hlt : i < n) (hK : K (.ref l (off + i * z.size)) [] 0) : OpTo P G o T L K :=
  mk_pure (tri_indexAddr_arr hΘ t x ix ho y z n e hy hd hz l off hx k i hi hlt) hK
theorem OpTo.rowAt (hΘ : TTok P Θ) {t : TypeId} {x ix : Operand} {y z : Ty} {e e' : TypeId} {sz : Nat} {l : Lbl} {n : Nat} {xs : List (List AV)} {k : IntKind} {i : Int} (ho : o.op = .indexAddr t x ix) (hy : Θ t = some y) (hd : y.d = .slice e) (hz : Θ e = some z)
    (hx : ev T x = .own l n) (hl : getL L l = some (.row e' sz xs)) (hsz : z.size = sz) (hn : xs.length = n) (hi : ev T ix = .int k i) (h0 : 0 ≤ i) (h1 : i < n) (hK : K (.rp l n (i.toNat * sz)) [] (rdC l)) : OpTo P G o T L K :=
  OpTo.reads (tri_indexAddr_own hΘ t x ix ho y z e hy hd hz sz hsz l n hx e' xs hn k i hi h0 h1) hl hK
theorem OpTo.rowField (hΘ : TTok P Θ) {t : TypeId} {x : Operand} {f : Nat} {u e : TypeId} {off : Nat} {z : Ty} {l : Lbl} {n k sz : Nat} {xs : List (List AV)} (ho : o.op = .fieldAddr t x f) (h : fieldOf Θ t f = some (u, off, z))
    (hx : ev T x = .rp l n k) (hl : getL L l = some (.row e sz xs)) (hn : xs.length = n) (hK : K (.rp l n (k + off)) [] (rdC l)) : OpTo P G o T L K :=
  OpTo.reads (tri_fieldAddr_rp hΘ t x f ho h l n k hx e sz xs hn) hl hK
/-- A load from the i-th element of a row, from its k-th cell on. -/
theorem OpTo.rowLoad (hΘ : TTok P Θ) {t : TypeId} {y : Ty} {x : Operand} {e : TypeId} {l : Lbl} {n off sz : Nat} {xs : List (List AV)} (i k : Nat) {c : List AV} {r : AV} (ho : o.op = .load t x) (hy : Θ t = some y)
    (hx : ev T x = .rp l n off) (hl : getL L l = some (.row e sz xs)) (hn : xs.length = n) (hall : ∀ x ∈ xs, x.length = sz) (hi : xs[i]? = some c) (hoff : off = i * sz + k) (hfit : k + y.size ≤ sz) (h1 : 0 < y.size) (hr : takeV y (c.drop k) = some r) (hK : K r [] (rdC l)) : OpTo P G o T L K := by
  have hlt : i < xs.length := (List.getElem?_eq_some_iff.1 hi).1
  have hc : c.length = sz := hall c (List.mem_of_getElem? hi)
  refine OpTo.reads (tri_load_rp hΘ t y x ho hy l n off hx e sz xs hn (by omega) r ?_) hl hK
  rw [hoff, flat_drop k hall hi (by omega)]
  unfold takeV at hr ⊢
  cases ha : y.agg with
  | true =>
    rw [ha] at hr
    have hb : Nat.ble y.size (c.drop k).length = true := Nat.ble_eq_true_of_le (by rw [List.length_drop]; omega)
    have hb' : Nat.ble y.size (c.drop k ++ (xs.drop (i + 1)).flatten).length = true := Nat.ble_eq_true_of_le (by rw [List.length_append, List.length_drop]; omega)
    simp only [hb, hb', cond_true] at hr ⊢
    rw [List.take_append_of_le_length (by rw [List.length_drop]; omega)]
    exact hr
  | false =>
    rw [ha] at hr
    simp only [cond_false] at hr ⊢
    rw [List.head?_append]
    rw [hr]
    rfl
theorem OpTo.rowStore (hΘ : TTok P Θ) {t : TypeId} {y : Ty} {x v : Operand} {e : TypeId} {l : Lbl} {n off sz : Nat} {xs : List (List AV)} (i k : Nat) {c vs : List AV} (zs : List (List AV)) (ho : o.op = .store t x v) (hy : Θ t = some y)
    (hx : ev T x = .rp l n off) (hl : getL L l = some (.row e sz xs)) (hn : xs.length = n) (hv : cellsOf (ev T v) = some vs) (hlen : vs.length = y.size) (hall : ∀ x ∈ xs, x.length = sz) (hi : xs[i]? = some c) (hoff : off = i * sz + k) (hfit : k + y.size ≤ sz)
    (hz : zs = xs.set i (spliceL c k vs)) (hK : K (.tup []) [(l, .row e sz zs)] (wrC l)) : OpTo P G o T L K := by
  have hlt : i < xs.length := (List.getElem?_eq_some_iff.1 hi).1
  have hc : c.length = sz := hall c (List.mem_of_getElem? hi)
  have hfl : xs.flatten.length = xs.length * sz := by
    clear hi hlt hn hl hK hz
    induction xs with
    | nil => simp
    | cons a as1 ih =>
      simp only [List.flatten_cons, List.length_append, List.length_cons, hall a List.mem_cons_self, Nat.add_mul, Nat.one_mul]
      rw [ih fun x hx => hall x (List.mem_cons_of_mem _ hx)]
      omega
  subst hz
  refine OpTo.writes (tri_store_rp hΘ t y x v ho hy l n off hx e sz xs hn (by omega) vs hv hlen ?_ _ ?_ (by simp) ?_) hl hK
  · rw [hfl, hoff]
    have := Nat.mul_le_mul_right sz (show i + 1 ≤ xs.length by omega)
    rw [Nat.add_mul] at this
    omega
  · rw [hoff]
    exact flat_splice k vs hall hi (by omega)
  · intro z hz
    rcases List.mem_or_eq_of_mem_set hz with h | h
    · exact hall z h
    · subst h
      simp only [spliceL, List.length_append, List.length_take, List.length_drop]
      omega
theorem OpTo.mkRow (hΘ : TTok P Θ) {t : TypeId} {n : Nat} {parts : Array (Nat × Operand)} {y z : Ty} {e : TypeId} {xs : List (List AV)} (l : Lbl) (ho : o.op = .buildSlice t n parts) (hy : Θ t = some y) (hd : y.d = .slice e) (hz : Θ e = some z)
    (hn : n = parts.size) (h0 : 0 < n) (hz0 : 0 < z.size) (hsm : n * z.size ≤ 16777216) (hn2 : n ≤ 16777216) (hx : cellsAll z.size 0 (parts.toList.map fun p => (p.1, ev T p.2)) = some xs) (hl : getL L l = none) (hK : K (.own l n) [(l, .row e z.size xs)] (mkC l)) : OpTo P G o T L K :=
  OpTo.makes (tri_buildRow hΘ t n parts ho y z e hy hd hz hn h0 hz0 hsm hn2 xs hx l) hl hK
theorem OpTo.mkMap {t : TypeId} (l : Lbl) (ho : o.op = .makeMap t none) (hl : getL L l = none) (hK : K (.mp l) [(l, .dmap [])] (mkC l)) : OpTo P G o T L K := OpTo.makes (tri_makeMap t ho l) hl hK
theorem OpTo.look (hΘ : TTok P Θ) {t : TypeId} {x k : Operand} {y yk ye : Ty} {kt et : TypeId} {l : Lbl} {es : List (AV × AV)} {s : Str} {r : Option Nat} {a : AV} (ho : o.op = .lookup t x k true) (hy : Θ t = some y) (hd : y.d = .map kt et) (hk : Θ kt = some yk) (hkd : yk.d = .string) (he : Θ et = some ye)
    (hx : ev T x = .mp l) (hl : getL L l = some (.dmap es)) (hs : ev T k = .str s) (hr : keyIdx s es 0 = some r) (ha : match r with | none => ofValue ye.zero = a | some i => ∃ p, es[i]? = some p ∧ p.2 = a) (hK : K (.tup [a, .bool r.isSome]) [] (rdC l)) : OpTo P G o T L K :=
  OpTo.reads (tri_lookup hΘ t x k ho y yk ye kt et hy hd hk hkd he l es hx s hs r hr a ha) hl hK
theorem OpTo.entry (hΘ : TTok P Θ) {t : TypeId} {x k : Operand} {y yk ye : Ty} {kt et : TypeId} {l : Lbl} {es : List (AV × AV)} {s : Str} (ho : o.op = .mapEntry t x k) (hy : Θ t = some y) (hd : y.d = .map kt et) (hk : Θ kt = some yk) (hkd : yk.d = .string) (he : Θ et = some ye)
    (hx : ev T x = .mp l) (hl : getL L l = some (.dmap es)) (hs : ev T k = .str s) (hr : keyIdx s es 0 = some none) (hK : K (.tup [ofValue ye.zero, .int .i64 es.length]) [(l, .dmap (es ++ [(.str s, ofValue ye.zero)]))] (wrC l)) : OpTo P G o T L K :=
  OpTo.writes (tri_mapEntry hΘ t x k ho y yk ye kt et hy hd hk hkd he l es hx s hs hr) hl hK
theorem OpTo.putE {t : TypeId} {x q v : Operand} {l : Lbl} {es es' : List (AV × AV)} {k : IntKind} {i : Nat} {p : AV × AV} {a : AV} (ho : o.op = .entryStore t x q v) (hx : ev T x = .mp l) (hl : getL L l = some (.dmap es)) (hi : ev T q = .int k i) (ha : ev T v = a) (hp : es[i]? = some p)
    (he : es' = es.set i (p.1, a)) (hK : K (.tup []) [(l, .dmap es')] (wrC l)) : OpTo P G o T L K := by
  subst he
  exact OpTo.writes (tri_entryStore t x q v ho l es hx k i hi p hp a ha) hl hK
end
theorem CallTo.makes {P : Program} {G : GlP} {fv : AV} {args : List AV} {L : BL} {K : AV → BL → Nat → Prop} {r : AV} {l : Lbl} {x : ABox} (h : MeetsV P G fv args [] r [(l, x)]) (hl : getL L l = none) (hK : K r [(l, x)] (mkC l)) : CallTo P G fv args L K :=
  ⟨r, [], [(l, x)], _, h, fun l b e => by simp [getL] at e, getL_one_none hl, Cls.mk_, hK⟩
theorem CallTo.fnMakes {P : Program} {G : GlP} {f : FuncId} {args : List AV} {L : BL} {K : AV → BL → Nat → Prop} {r : AV} {l : Lbl} {x : ABox} (h : Meets P G f args [] r [(l, x)]) (hl : getL L l = none) (hK : K r [(l, x)] (mkC l)) : CallTo P G (.fn (.func f) [] []) args L K :=
  CallTo.makes (MeetsV.of (by simpa using h)) hl hK
theorem keys_of {fp gp : BL} (hg : gp.all (fun p => keyB fp p.1) = true) (L : BL) : ∀ l b, getL gp l = some b → (getL fp l).isSome = true ∨ getL L l = none := fun l b h => by
  rw [List.all_eq_true] at hg
  exact .inl (hg _ (getL_mem h))
theorem CallTo.upd {P : Program} {G : GlP} {fv : AV} {args : List AV} {L fp gp : BL} {K : AV → BL → Nat → Prop} {r : AV} (h : MeetsV P G fv args fp r gp) (hf : SubL fp L) (hg : gp.all (fun p => keyB fp p.1) = true) (hK : K r gp 3) : CallTo P G fv args L K :=
  ⟨r, fp, gp, 3, h, hf.spec, keys_of hg L, Cls.any, hK⟩
theorem CallTo.fnUpd {P : Program} {G : GlP} {f : FuncId} {args : List AV} {L fp gp : BL} {K : AV → BL → Nat → Prop} {r : AV} (h : Meets P G f args fp r gp) (hf : SubL fp L) (hg : gp.all (fun p => keyB fp p.1) = true) (hK : K r gp 3) : CallTo P G (.fn (.func f) [] []) args L K :=
  CallTo.upd (MeetsV.of (by simpa using h)) hf hg hK
theorem CallTo.sees {P : Program} {G : GlP} {fv : AV} {args : List AV} {L fp : BL} {K : AV → BL → Nat → Prop} {r : AV} (h : MeetsV P G fv args fp r []) (hf : SubL fp L) (hK : K r [] 1) : CallTo P G fv args L K :=
  CallTo.reads h hf.spec hK
theorem CallTo.fnSees {P : Program} {G : GlP} {f : FuncId} {args : List AV} {L fp : BL} {K : AV → BL → Nat → Prop} {r : AV} (h : Meets P G f args fp r []) (hf : SubL fp L) (hK : K r [] 1) : CallTo P G (.fn (.func f) [] []) args L K :=
  CallTo.sees (MeetsV.of (by simpa using h)) hf hK
end Go.Ab
