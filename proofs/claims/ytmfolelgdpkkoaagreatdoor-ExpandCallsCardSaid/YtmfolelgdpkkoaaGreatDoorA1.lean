/- The framework of abstract states, part 1: abstract values, what they stand for, and how they are kept while memory grows. -/
import Derived.Laws.Tables
import Derived.Maps.AppendAt
import Derived.Orders
import Derived.OrdersIn
import Derived.RangeFuncRecord
import Derived.WalkKit
set_option linter.unusedVariables false
namespace Go.Ab

abbrev Lbl := Nat × Nat
abbrev Str := List UInt8
abbrev Mu := Lbl → Option (Value × Option Nat)

inductive AV where
  | int (k : IntKind) (n : Int)
  | bool (b : Bool)
  | ub
  | str (s : Str)
  | lst (sz : Nat) (xs : List (List AV))
  | emp
  | own (l : Lbl) (n : Nat)
  | agg (cs : List AV)
  | pp (cs : List AV)
  | ref (l : Lbl) (off : Nat)
  | rp (l : Lbl) (n : Nat) (o : Nat)
  | nilp
  | fn (f : Fn) (first captured : List AV)
  | nilf
  | iface (t : TypeId) (v : AV)
  | nili
  | mp (l : Lbl)
  | yv (l : Lbl)
  | nilm
  | tup (vs : List AV)
  | gp (g : Nat)
  | dead
  deriving Inhabited

/-- A loop over a function: what its record has of the text. -/
structure LD where
  ps : Array Tmp
  assign : Code
  body : Code
  N : Nat
  deriving Inhabited
inductive ABox where
  | cells (e : TypeId) (cs : List AV)
  | row (e : TypeId) (sz : Nat) (xs : List (List AV))
  | dmap (es : List (AV × AV))
  | lrec (st : LoopState) (jump : Option Code) (ld : LD) (T : List (Nat × AV))
  deriving Inhabited

/-- A value of one cell. -/
def AV.one : AV → Bool
  | .agg _ => false
  | .tup _ => false
  | .dead => false
  | _ => true
def allOne (cs : List AV) : Prop := ∀ c ∈ cs, c.one = true

mutual
def Cv (w : World) (O : Nat → Prop) : AV → Mu → Value → Prop
  | .int k n, _, v => v = .int k n
  | .bool b, _, v => v = .bool b
  | .ub, _, v => ∃ b, v = .bool b
  | .str s, _, v => v = .string ⟨s.toArray⟩ ∧ s.length ≤ maxLen
  | .lst sz xs, _, v => ∃ A cap, v = .slice A xs.length cap ∧ xs.length ≤ cap ∧ cap ≤ maxLen ∧
      (xs = [] ∨ ∃ b off, A = some ⟨b, off, none⟩ ∧ b < w.heap.size ∧ ¬ O b ∧ CvR w O sz xs b off)
  | .emp, _, v => ∃ A, v = .slice A 0 0
  | .own l n, μ, v => ∃ A m cap ob, μ l = some (.slice A m cap, ob) ∧ n ≤ m ∧ (m = n → v = .slice A m cap) ∧ ∃ A' c', v = .slice A' n c'
  | .agg cs, μ, v => ∃ vs, v = .agg vs ∧ CvL w O cs μ vs.toList ∧ allOne cs
  | .pp cs, _, v => ∃ b off, v = .pointer (some ⟨b, off, none⟩) ∧ b < w.heap.size ∧ ¬ O b ∧ CvC w O cs b off
  | .ref l off, μ, v => ∃ b ob, μ l = some (.pointer (some ⟨b, 0, none⟩), ob) ∧ v = .pointer (some ⟨b, off, none⟩)
  | .rp l n o, μ, v => ∃ A m cap ob, μ l = some (.slice A m cap, ob) ∧ n ≤ m ∧ (m = n → ∃ b, A = some ⟨b, 0, none⟩ ∧ v = .pointer (some ⟨b, o, none⟩)) ∧ ∃ a, v = .pointer (some a)
  | .nilp, _, v => v = .pointer none
  | .fn f a b, μ, v => ∃ xs ys, v = .func f xs ys ∧ CvL w O a μ xs.toList ∧ CvL w O b μ ys.toList
  | .nilf, _, v => v = .nilFunc
  | .iface t a, μ, v => ∃ x, v = .iface t x ∧ Cv w O a μ x
  | .nili, _, v => v = .nilIface
  | .mp l, μ, v => ∃ r ob, v = .map (some r) ∧ μ l = some (v, ob)
  | .yv l, μ, v => ∃ r ob, v = .func (.yield r) #[] #[] ∧ μ l = some (v, ob)
  | .nilm, _, v => v = .map none
  | .tup vs, μ, v => ∃ xs, v = .tuple xs ∧ CvL w O vs μ xs.toList
  | .gp g, _, v => v = .pointer (some ⟨g, 0, none⟩)
  | .dead, _, _ => True
def CvL (w : World) (O : Nat → Prop) : List AV → Mu → List Value → Prop
  | [], _, vs => vs = []
  | a :: as1, μ, vs => ∃ x xs, vs = x :: xs ∧ Cv w O a μ x ∧ CvL w O as1 μ xs
def CvC (w : World) (O : Nat → Prop) : List AV → Nat → Nat → Prop
  | [], _, _ => True
  | a :: as1, b, off => (∃ x, w.cell? ⟨b, off, none⟩ = some x ∧ Cv w O a (fun _ => none) x ∧ a.one = true) ∧ CvC w O as1 b (off + 1)
def CvR (w : World) (O : Nat → Prop) (sz : Nat) : List (List AV) → Nat → Nat → Prop
  | [], _, _ => True
  | x :: xs, b, off => x.length = sz ∧ CvC w O x b off ∧ CvR w O sz xs b (off + sz)
end

def own (μ : Mu) (b : Nat) : Prop := ∃ l v, μ l = some (v, some b)

def kp (v v' : Value) : Prop := v' = v ∨ ∃ A m cap A' m' cap', v = .slice A m cap ∧ v' = .slice A' m' cap' ∧ m < m'
theorem kp.refl (v : Value) : kp v v := .inl rfl
theorem kp.trans {a b c : Value} (h : kp a b) (h' : kp b c) : kp a c := by
  rcases h with rfl | ⟨A, m, cap, A', m', cap', rfl, rfl, hm⟩
  · exact h'
  · rcases h' with rfl | ⟨B, n, cap2, B', n', cap2', e, rfl, hn⟩
    · exact .inr ⟨_, _, _, _, _, _, rfl, rfl, hm⟩
    · injection e with e1 e2 e3
      subst e1 e2 e3
      exact .inr ⟨_, _, _, _, _, _, rfl, rfl, by omega⟩

def Keeps (μ μ' : Mu) : Prop := ∀ l v ob, μ l = some (v, ob) → ∃ v' ob', μ' l = some (v', ob') ∧ kp v v'
theorem Keeps.refl (μ : Mu) : Keeps μ μ := fun l v ob h => ⟨v, ob, h, kp.refl v⟩
theorem Keeps.trans {a b c : Mu} (h : Keeps a b) (h' : Keeps b c) : Keeps a c := fun l v ob hl => by
  obtain ⟨v1, o1, h1, k1⟩ := h l v ob hl
  obtain ⟨v2, o2, h2, k2⟩ := h' l v1 o1 h1
  exact ⟨v2, o2, h2, k1.trans k2⟩
theorem Keeps.slice {μ μ' : Mu} (h : Keeps μ μ') {l : Lbl} {A : Option Addr} {m cap : Nat} {ob : Option Nat} (hl : μ l = some (.slice A m cap, ob)) :
    ∃ A' m' cap' ob', μ' l = some (.slice A' m' cap', ob') ∧ m ≤ m' ∧ (m' = m → Value.slice A' m' cap' = .slice A m cap) := by
  obtain ⟨v', ob', h1, rfl | ⟨B, n, cap2, B', n', cap2', e, rfl, hn⟩⟩ := h _ _ _ hl
  · exact ⟨A, m, cap, ob', h1, Nat.le_refl _, fun _ => rfl⟩
  · injection e with e1 e2 e3
    subst e1 e2 e3
    exact ⟨_, _, _, _, h1, by omega, fun e => by omega⟩
theorem Keeps.other {μ μ' : Mu} (h : Keeps μ μ') {l : Lbl} {v : Value} {ob : Option Nat} (hl : μ l = some (v, ob)) (hs : ∀ A m c, v ≠ .slice A m c) : ∃ ob', μ' l = some (v, ob') := by
  obtain ⟨v', ob', h1, rfl | ⟨B, n, cap2, B', n', cap2', e, rfl, hn⟩⟩ := h _ _ _ hl
  · exact ⟨ob', h1⟩
  · exact absurd e (hs _ _ _)

theorem cell_eq {w w' : World} {b : Nat} (h : w'.heap[b]? = w.heap[b]?) (off : Nat) : w'.cell? ⟨b, off, none⟩ = w.cell? ⟨b, off, none⟩ := by
  simp [World.cell?, h]

/-- What is told of a value is still so when what isn't owned has stayed, isn't owned now, and the labels are kept. -/
structure Later (w : World) (O : Nat → Prop) (w' : World) (O' : Nat → Prop) : Prop where
  size : w.heap.size ≤ w'.heap.size
  keep : ∀ b, b < w.heap.size → ¬ O b → w'.heap[b]? = w.heap[b]? ∧ ¬ O' b

/-- The same, of cells alone. -/
structure LaterC (w : World) (O : Nat → Prop) (w' : World) (O' : Nat → Prop) : Prop where
  size : w.heap.size ≤ w'.heap.size
  keep : ∀ b, b < w.heap.size → ¬ O b → (∀ o, w'.cell? ⟨b, o, none⟩ = w.cell? ⟨b, o, none⟩) ∧ ¬ O' b
theorem Later.toC {w w' : World} {O O' : Nat → Prop} (h : Later w O w' O') : LaterC w O w' O' := ⟨h.size, fun b hb ho => ⟨fun o => cell_eq (h.keep b hb ho).1 o, (h.keep b hb ho).2⟩⟩

mutual
theorem Cv.monoC {w w' : World} {O O' : Nat → Prop} (hb : LaterC w O w' O') : ∀ (a : AV) {μ μ' : Mu} {v : Value}, Keeps μ μ' → Cv w O a μ v → Cv w' O' a μ' v
  | .int k n, μ, μ', v, hk, h => by simpa [Cv] using h
  | .bool b, μ, μ', v, hk, h => by simpa [Cv] using h
  | .ub, μ, μ', v, hk, h => by simpa [Cv] using h
  | .str s, μ, μ', v, hk, h => by simpa [Cv] using h
  | .lst sz xs, μ, μ', v, hk, h => by
    simp only [Cv] at h ⊢
    obtain ⟨A, cap, h1, h2, h3, h4⟩ := h
    refine ⟨A, cap, h1, h2, h3, h4.imp id ?_⟩
    rintro ⟨b, off, e, hlt, ho, hr⟩
    exact ⟨b, off, e, Nat.lt_of_lt_of_le hlt hb.size, (hb.keep b hlt ho).2, CvR.monoC hb xs (hb.keep b hlt ho).1 hr⟩
  | .emp, μ, μ', v, hk, h => by simpa [Cv] using h
  | .own l n, μ, μ', v, hk, h => by
    simp only [Cv] at h ⊢
    obtain ⟨A, m, cap, ob, h1, h2, h3, h4⟩ := h
    obtain ⟨A', m', cap', ob', h1', h2', h3'⟩ := hk.slice h1
    refine ⟨A', m', cap', ob', h1', by omega, fun e => ?_, h4⟩
    have hm : m' = m := by omega
    rw [h3' hm]
    exact h3 (by omega)
  | .agg cs, μ, μ', v, hk, h => by
    simp only [Cv] at h ⊢
    obtain ⟨vs, h1, h2, h3⟩ := h
    exact ⟨vs, h1, CvL.monoC hb cs hk h2, h3⟩
  | .pp cs, μ, μ', v, hk, h => by
    simp only [Cv] at h ⊢
    obtain ⟨b, off, e, hlt, ho, hr⟩ := h
    exact ⟨b, off, e, Nat.lt_of_lt_of_le hlt hb.size, (hb.keep b hlt ho).2, CvC.monoC hb cs (hb.keep b hlt ho).1 hr⟩
  | .ref l off, μ, μ', v, hk, h => by
    simp only [Cv] at h ⊢
    obtain ⟨b, ob, h1, h2⟩ := h
    obtain ⟨ob', h1'⟩ := hk.other h1 (by simp)
    exact ⟨b, ob', h1', h2⟩
  | .rp l n o, μ, μ', v, hk, h => by
    simp only [Cv] at h ⊢
    obtain ⟨A, m, cap, ob, h1, h2, h3, h4⟩ := h
    obtain ⟨A', m', cap', ob', h1', h2', h3'⟩ := hk.slice h1
    refine ⟨A', m', cap', ob', h1', by omega, fun e => ?_, h4⟩
    have hm : m' = m := by omega
    have := h3' hm
    injection this with e1 _ _
    subst e1
    exact h3 (by omega)
  | .nilp, μ, μ', v, hk, h => by simpa [Cv] using h
  | .fn f a b, μ, μ', v, hk, h => by
    simp only [Cv] at h ⊢
    obtain ⟨xs, ys, h1, h2, h3⟩ := h
    exact ⟨xs, ys, h1, CvL.monoC hb a hk h2, CvL.monoC hb b hk h3⟩
  | .nilf, μ, μ', v, hk, h => by simpa [Cv] using h
  | .iface t a, μ, μ', v, hk, h => by
    simp only [Cv] at h ⊢
    obtain ⟨x, h1, h2⟩ := h
    exact ⟨x, h1, Cv.monoC hb a hk h2⟩
  | .nili, μ, μ', v, hk, h => by simpa [Cv] using h
  | .mp l, μ, μ', v, hk, h => by
    simp only [Cv] at h ⊢
    obtain ⟨r, ob, rfl, h1⟩ := h
    obtain ⟨ob', h1'⟩ := hk.other h1 (by simp)
    exact ⟨r, ob', rfl, h1'⟩
  | .yv l, μ, μ', v, hk, h => by
    simp only [Cv] at h ⊢
    obtain ⟨r, ob, rfl, h1⟩ := h
    obtain ⟨ob', h1'⟩ := hk.other h1 (by simp)
    exact ⟨r, ob', rfl, h1'⟩
  | .nilm, μ, μ', v, hk, h => by simpa [Cv] using h
  | .tup vs, μ, μ', v, hk, h => by
    simp only [Cv] at h ⊢
    obtain ⟨xs, h1, h2⟩ := h
    exact ⟨xs, h1, CvL.monoC hb vs hk h2⟩
  | .gp g, μ, μ', v, hk, h => by simpa [Cv] using h
  | .dead, μ, μ', v, hk, h => by simp [Cv]
theorem CvL.monoC {w w' : World} {O O' : Nat → Prop} (hb : LaterC w O w' O') : ∀ (as1 : List AV) {μ μ' : Mu} {vs : List Value}, Keeps μ μ' → CvL w O as1 μ vs → CvL w' O' as1 μ' vs
  | [], μ, μ', vs, hk, h => by simpa [CvL] using h
  | a :: as1, μ, μ', vs, hk, h => by
    simp only [CvL] at h ⊢
    obtain ⟨x, xs, h1, h2, h3⟩ := h
    exact ⟨x, xs, h1, Cv.monoC hb a hk h2, CvL.monoC hb as1 hk h3⟩
theorem CvC.monoC {w w' : World} {O O' : Nat → Prop} (hb : LaterC w O w' O') : ∀ (as1 : List AV) {b off : Nat}, (∀ o, w'.cell? ⟨b, o, none⟩ = w.cell? ⟨b, o, none⟩) → CvC w O as1 b off → CvC w' O' as1 b off
  | [], b, off, hw, h => by simp [CvC]
  | a :: as1, b, off, hw, h => by
    simp only [CvC] at h ⊢
    obtain ⟨⟨x, h1, h2, h4⟩, h3⟩ := h
    exact ⟨⟨x, (hw off).trans h1, Cv.monoC hb a (Keeps.refl _) h2, h4⟩, CvC.monoC hb as1 hw h3⟩
theorem CvR.monoC {w w' : World} {O O' : Nat → Prop} (hb : LaterC w O w' O') {sz : Nat} : ∀ (xs : List (List AV)) {b off : Nat}, (∀ o, w'.cell? ⟨b, o, none⟩ = w.cell? ⟨b, o, none⟩) → CvR w O sz xs b off → CvR w' O' sz xs b off
  | [], b, off, hw, h => by simp [CvR]
  | x :: xs, b, off, hw, h => by
    simp only [CvR] at h ⊢
    exact ⟨h.1, CvC.monoC hb x hw h.2.1, CvR.monoC hb xs hw h.2.2⟩
end

theorem Cv.mono {w w' : World} {O O' : Nat → Prop} (hb : Later w O w' O') (a : AV) {μ μ' : Mu} {v : Value} (hk : Keeps μ μ') (h : Cv w O a μ v) : Cv w' O' a μ' v := Cv.monoC hb.toC a hk h
theorem CvL.mono {w w' : World} {O O' : Nat → Prop} (hb : Later w O w' O') (as1 : List AV) {μ μ' : Mu} {vs : List Value} (hk : Keeps μ μ') (h : CvL w O as1 μ vs) : CvL w' O' as1 μ' vs := CvL.monoC hb.toC as1 hk h
theorem CvC.mono {w w' : World} {O O' : Nat → Prop} (hb : Later w O w' O') (as1 : List AV) {b off : Nat} (hw : w'.heap[b]? = w.heap[b]?) (h : CvC w O as1 b off) : CvC w' O' as1 b off := CvC.monoC hb.toC as1 (fun o => cell_eq hw o) h
theorem CvR.mono {w w' : World} {O O' : Nat → Prop} (hb : Later w O w' O') {sz : Nat} (xs : List (List AV)) {b off : Nat} (hw : w'.heap[b]? = w.heap[b]?) (h : CvR w O sz xs b off) : CvR w' O' sz xs b off := CvR.monoC hb.toC xs (fun o => cell_eq hw o) h

theorem Later.refl (w : World) (O : Nat → Prop) : Later w O w O := ⟨Nat.le_refl _, fun _ _ h => ⟨rfl, h⟩⟩

/-! Lists of values -/
theorem CvL.length {w : World} {O : Nat → Prop} : ∀ {as1 : List AV} {μ : Mu} {vs : List Value}, CvL w O as1 μ vs → vs.length = as1.length
  | [], μ, vs, h => by simp [CvL] at h; simp [h]
  | a :: as1, μ, vs, h => by
    simp only [CvL] at h
    obtain ⟨x, xs, rfl, h2, h3⟩ := h
    simp [h3.length]
theorem CvL.get {w : World} {O : Nat → Prop} : ∀ {as1 : List AV} {μ : Mu} {vs : List Value}, CvL w O as1 μ vs → ∀ (i : Nat) (a : AV), as1[i]? = some a → ∃ x, vs[i]? = some x ∧ Cv w O a μ x
  | [], μ, vs, h, i, a, hi => by simp at hi
  | b :: as1, μ, vs, h, i, a, hi => by
    simp only [CvL] at h
    obtain ⟨x, xs, rfl, h2, h3⟩ := h
    cases i with
    | zero => simp at hi; subst hi; exact ⟨x, by simp, h2⟩
    | succ i => simpa using h3.get i a (by simpa using hi)
theorem CvL.of_get {w : World} {O : Nat → Prop} : ∀ {as1 : List AV} {μ : Mu} {vs : List Value}, vs.length = as1.length → (∀ (i : Nat) (a : AV) (x : Value), as1[i]? = some a → vs[i]? = some x → Cv w O a μ x) → CvL w O as1 μ vs
  | [], μ, vs, hl, h => by simpa [CvL] using hl
  | a :: as1, μ, [], hl, h => by simp at hl
  | a :: as1, μ, x :: xs, hl, h => by
    simp only [CvL]
    exact ⟨x, xs, rfl, h 0 a x rfl rfl, CvL.of_get (by simpa using hl) fun i a x h1 h2 => h (i + 1) a x (by simpa using h1) (by simpa using h2)⟩
theorem CvL.append {w : World} {O : Nat → Prop} : ∀ {as1 bs : List AV} {μ : Mu} {vs us : List Value}, CvL w O as1 μ vs → CvL w O bs μ us → CvL w O (as1 ++ bs) μ (vs ++ us)
  | [], bs, μ, vs, us, h, h' => by simp only [CvL] at h; subst h; simpa using h'
  | a :: as1, bs, μ, vs, us, h, h' => by
    simp only [CvL] at h
    obtain ⟨x, xs, rfl, h2, h3⟩ := h
    simp only [List.cons_append, CvL]
    exact ⟨x, xs ++ us, rfl, h2, h3.append h'⟩
theorem CvL.take {w : World} {O : Nat → Prop} : ∀ (n : Nat) {as1 : List AV} {μ : Mu} {vs : List Value}, CvL w O as1 μ vs → CvL w O (as1.take n) μ (vs.take n)
  | 0, as1, μ, vs, h => by simp [CvL]
  | n + 1, [], μ, vs, h => by simp only [CvL] at h; subst h; simp [CvL]
  | n + 1, a :: as1, μ, vs, h => by
    simp only [CvL] at h
    obtain ⟨x, xs, rfl, h2, h3⟩ := h
    simp only [List.take_succ_cons, CvL]
    exact ⟨x, xs.take n, rfl, h2, h3.take n⟩
theorem CvL.drop {w : World} {O : Nat → Prop} : ∀ (n : Nat) {as1 : List AV} {μ : Mu} {vs : List Value}, CvL w O as1 μ vs → CvL w O (as1.drop n) μ (vs.drop n)
  | 0, as1, μ, vs, h => by simpa using h
  | n + 1, [], μ, vs, h => by simp only [CvL] at h; subst h; simp [CvL]
  | n + 1, a :: as1, μ, vs, h => by
    simp only [CvL] at h
    obtain ⟨x, xs, rfl, h2, h3⟩ := h
    simpa using h3.drop n
theorem CvC.get {w : World} {O : Nat → Prop} : ∀ {as1 : List AV} {b off : Nat}, CvC w O as1 b off → ∀ (i : Nat) (a : AV), as1[i]? = some a → ∃ x, w.cell? ⟨b, off + i, none⟩ = some x ∧ Cv w O a (fun _ => none) x ∧ a.one = true
  | [], b, off, h, i, a, hi => by simp at hi
  | c :: as1, b, off, h, i, a, hi => by
    simp only [CvC] at h
    cases i with
    | zero => simp at hi; subst hi; exact h.1
    | succ i =>
      have := h.2.get i a (by simpa using hi)
      rwa [show off + 1 + i = off + (i + 1) from by omega] at this
theorem CvC.of_get {w : World} {O : Nat → Prop} : ∀ {as1 : List AV} {b off : Nat}, (∀ (i : Nat) (a : AV), as1[i]? = some a → ∃ x, w.cell? ⟨b, off + i, none⟩ = some x ∧ Cv w O a (fun _ => none) x ∧ a.one = true) → CvC w O as1 b off
  | [], b, off, h => by simp [CvC]
  | c :: as1, b, off, h => by
    simp only [CvC]
    exact ⟨h 0 c rfl, CvC.of_get fun i a hi => by
      have := h (i + 1) a (by simpa using hi)
      rwa [show off + (i + 1) = off + 1 + i from by omega] at this⟩
theorem CvC.allOne {w : World} {O : Nat → Prop} {as1 : List AV} {b off : Nat} (h : CvC w O as1 b off) : allOne as1 := fun c hc => by
  obtain ⟨i, hi⟩ := List.getElem?_of_mem hc
  obtain ⟨x, _, _, h1⟩ := h.get i c hi
  exact h1
theorem CvC.drop {w : World} {O : Nat → Prop} {as1 : List AV} {b off : Nat} (h : CvC w O as1 b off) (n : Nat) : CvC w O (as1.drop n) b (off + n) :=
  CvC.of_get fun i a hi => by
    have := h.get (n + i) a (by simpa using hi)
    rwa [← Nat.add_assoc] at this
theorem CvC.take {w : World} {O : Nat → Prop} {as1 : List AV} {b off : Nat} (h : CvC w O as1 b off) (n : Nat) : CvC w O (as1.take n) b off :=
  CvC.of_get fun i a hi => h.get i a (by
    rw [List.getElem?_take] at hi
    split at hi <;> simp_all)
theorem CvR.get {w : World} {O : Nat → Prop} {sz : Nat} : ∀ {xs : List (List AV)} {b off : Nat}, CvR w O sz xs b off → ∀ (i : Nat) (x : List AV), xs[i]? = some x → x.length = sz ∧ CvC w O x b (off + i * sz)
  | [], b, off, h, i, a, hi => by simp at hi
  | c :: as1, b, off, h, i, a, hi => by
    simp only [CvR] at h
    cases i with
    | zero => simp at hi; subst hi; simpa using ⟨h.1, h.2.1⟩
    | succ i =>
      have := h.2.2.get i a (by simpa using hi)
      rwa [show off + sz + i * sz = off + (i + 1) * sz from by rw [Nat.add_mul]; omega] at this
theorem CvR.of_get {w : World} {O : Nat → Prop} {sz : Nat} : ∀ {xs : List (List AV)} {b off : Nat}, (∀ (i : Nat) (x : List AV), xs[i]? = some x → x.length = sz ∧ CvC w O x b (off + i * sz)) → CvR w O sz xs b off
  | [], b, off, h => by simp [CvR]
  | c :: as1, b, off, h => by
    simp only [CvR]
    have h0 := h 0 c rfl
    simp at h0
    refine ⟨h0.1, h0.2, CvR.of_get fun i a hi => ?_⟩
    have := h (i + 1) a (by simpa using hi)
    rwa [show off + (i + 1) * sz = off + sz + i * sz from by rw [Nat.add_mul]; omega] at this
theorem CvR.drop {w : World} {O : Nat → Prop} {sz : Nat} {xs : List (List AV)} {b off : Nat} (h : CvR w O sz xs b off) (n : Nat) : CvR w O sz (xs.drop n) b (off + n * sz) :=
  CvR.of_get fun i x hi => by
    have := h.get (n + i) x (by simpa using hi)
    rwa [Nat.add_mul, ← Nat.add_assoc] at this
theorem CvR.take {w : World} {O : Nat → Prop} {sz : Nat} {xs : List (List AV)} {b off : Nat} (h : CvR w O sz xs b off) (n : Nat) : CvR w O sz (xs.take n) b off :=
  CvR.of_get fun i x hi => h.get i x (by
    rw [List.getElem?_take] at hi
    split at hi <;> simp_all)
theorem allOne.drop {cs : List AV} (h : allOne cs) (n : Nat) : allOne (cs.drop n) := fun c hc => h c (List.mem_of_mem_drop hc)
theorem allOne.take {cs : List AV} (h : allOne cs) (n : Nat) : allOne (cs.take n) := fun c hc => h c (List.mem_of_mem_take hc)
theorem allOne.append {a b : List AV} (h : allOne a) (h' : allOne b) : allOne (a ++ b) := fun c hc => (List.mem_append.1 hc).elim (h c) (h' c)
theorem Cv.oneCell {w : World} {O : Nat → Prop} {a : AV} {μ : Mu} {v : Value} (h : Cv w O a μ v) (h1 : a.one = true) : v.oneCell' = true := by
  cases a <;> simp only [AV.one] at h1 <;> try (exact absurd h1 (by decide))
  all_goals simp only [Cv] at h
  case int => subst h; rfl
  case bool => subst h; rfl
  case ub => obtain ⟨b, rfl⟩ := h; rfl
  case str => rw [h.1]; rfl
  case lst => obtain ⟨A, cap, rfl, _⟩ := h; rfl
  case emp => obtain ⟨A, rfl⟩ := h; rfl
  case own => obtain ⟨A, m, cap, ob, _, _, _, A', c', rfl⟩ := h; rfl
  case pp => obtain ⟨b, off, rfl, _⟩ := h; rfl
  case ref => obtain ⟨b, ob, _, rfl⟩ := h; rfl
  case rp => obtain ⟨A, m, cap, ob, _, _, _, a, rfl⟩ := h; rfl
  case nilp => subst h; rfl
  case fn => obtain ⟨xs, ys, rfl, _⟩ := h; rfl
  case nilf => subst h; rfl
  case iface => obtain ⟨x, rfl, _⟩ := h; rfl
  case nili => subst h; rfl
  case mp => obtain ⟨r, ob, rfl, _⟩ := h; rfl
  case yv => obtain ⟨r, ob, rfl, _⟩ := h; rfl
  case nilm => subst h; rfl
  case gp => subst h; rfl
theorem oneCell_cells {v : Value} (h : v.oneCell' = true) : v.cells = #[v] := by
  cases v <;> first | rfl | (simp [Value.oneCell'] at h)
end Go.Ab
/- The framework of abstract states, part 2: boxes, the state of memory as a whole, and what a step does to it. -/
set_option linter.unusedVariables false
namespace Go.Ab

def lbeq (a b : Lbl) : Bool := Nat.beq a.1 b.1 && Nat.beq a.2 b.2
theorem lbeq_iff {a b : Lbl} : lbeq a b = true ↔ a = b := by
  obtain ⟨a1, a2⟩ := a; obtain ⟨b1, b2⟩ := b
  simp [lbeq, Nat.beq_eq]
theorem lbeq_false {a b : Lbl} : lbeq a b = false ↔ a ≠ b := by
  rw [← Bool.not_eq_true, lbeq_iff]

abbrev BL := List (Lbl × ABox)
def getL : BL → Lbl → Option ABox
  | [], _ => none
  | (k, o) :: r, l => cond (lbeq k l) (some o) (getL r l)
def ovr (L : Lbl → Option ABox) (gp : BL) : Lbl → Option ABox := fun l => match getL gp l with | some o => some o | none => L l
theorem getL_append (a b : BL) (l : Lbl) : getL (a ++ b) l = ovr (getL b) a l := by
  induction a with
  | nil => simp [ovr, getL]
  | cons p r ih =>
    obtain ⟨k, o⟩ := p
    simp only [List.cons_append, getL, ovr]
    cases h : lbeq k l
    · simpa [ovr] using ih
    · simp
theorem ovr_nil (L : Lbl → Option ABox) : ovr L [] = L := by funext l; simp [ovr, getL]

abbrev TL := List (Nat × AV)
def getT : TL → Nat → AV
  | [], _ => .dead
  | (k, v) :: r, t => cond (Nat.beq k t) v (getT r t)
def BoxR (w : World) (O : Nat → Prop) : ABox → Mu → Value → Option Nat → Prop
  | .cells e cs, μ, v, ob => ∃ b vs, v = .pointer (some ⟨b, 0, none⟩) ∧ ob = some b ∧ w.heap[b]? = some (.cells vs e (0, 0)) ∧ CvL w O cs μ vs.toList ∧ allOne cs
  | .row e sz xs, μ, v, ob => ∃ A cap vs, v = .slice A xs.length cap ∧ xs.length ≤ cap ∧ cap ≤ maxLen ∧ (∀ x ∈ xs, x.length = sz) ∧ (CvL w O xs.flatten μ vs ∧ allOne xs.flatten) ∧
      ((cap = 0 ∧ ob = none) ∨ ∃ b sp, ob = some b ∧ A = some ⟨b, 0, none⟩ ∧ w.heap[b]? = some (.cells (vs ++ sp).toArray e (0, 0)) ∧ (vs ++ sp).length = cap * sz)
  | .dmap es, μ, v, ob => ∃ r ents, v = .map (some r) ∧ ob = some r ∧ w.heap[r]? = some (.map ents es.length) ∧ (∀ (i : Nat) (e : MapEntry), ents[i]? = some e → e.born = i) ∧
      CvL w O (es.map (·.1)) μ (ents.toList.map (·.key)) ∧ CvL w O (es.map (·.2)) μ (ents.toList.map (·.val))
  | .lrec st jump ld T, μ, v, ob => ∃ b r, v = .func (.yield b) #[] #[] ∧ ob = some b ∧ w.heap[b]? = some (.loop r) ∧ r.state = st ∧ r.pending = jump ∧ r.params = ld.ps ∧ r.assign = ld.assign ∧ r.body = ld.body ∧
      r.tmps.size = ld.N ∧ ∀ t, Cv w O (getT T t) μ (r.tmps.getD t undef)

theorem BoxR.monoC {w w' : World} {O O' : Nat → Prop} (hb : LaterC w O w' O') {μ μ' : Mu} (hk : Keeps μ μ') {o : ABox} {v : Value} {ob : Option Nat}
    (hob : ∀ b, ob = some b → w'.heap[b]? = w.heap[b]?) (h : BoxR w O o μ v ob) : BoxR w' O' o μ' v ob := by
  cases o with
  | cells e cs =>
    obtain ⟨b, vs, h1, h2, h3, h4, h5⟩ := h
    exact ⟨b, vs, h1, h2, (hob b h2).trans h3, h4.monoC hb cs hk, h5⟩
  | row e sz xs =>
    obtain ⟨A, cap, vs, h1, h2, h3, h4, h5, h6⟩ := h
    refine ⟨A, cap, vs, h1, h2, h3, h4, ⟨h5.1.monoC hb _ hk, h5.2⟩, h6.imp id ?_⟩
    rintro ⟨b, sp, e1, e2, e3, e4⟩
    exact ⟨b, sp, e1, e2, (hob b e1).trans e3, e4⟩
  | dmap es =>
    obtain ⟨r, ents, h1, h2, h3, h6, h4, h5⟩ := h
    exact ⟨r, ents, h1, h2, (hob r h2).trans h3, h6, h4.monoC hb _ hk, h5.monoC hb _ hk⟩
  | lrec st jump ld T =>
    obtain ⟨b, r, h1, h2, h3, h4, h5, h6, h7, h8, h9, h10⟩ := h
    exact ⟨b, r, h1, h2, (hob b h2).trans h3, h4, h5, h6, h7, h8, h9, fun t => (h10 t).monoC hb _ hk⟩

theorem BoxR.mono {w w' : World} {O O' : Nat → Prop} (hb : Later w O w' O') {μ μ' : Mu} (hk : Keeps μ μ') {o : ABox} {v : Value} {ob : Option Nat}
    (hob : ∀ b, ob = some b → w'.heap[b]? = w.heap[b]?) (h : BoxR w O o μ v ob) : BoxR w' O' o μ' v ob := h.monoC hb.toC hk hob

/-! Labels that a value names. -/
mutual
def cloB (D : Lbl → Bool) : AV → Bool
  | .own l _ => D l
  | .ref l _ => D l
  | .rp l _ _ => D l
  | .mp l => D l
  | .yv l => D l
  | .agg cs => cloL D cs
  | .fn _ a b => cloL D a && cloL D b
  | .iface _ v => cloB D v
  | .tup vs => cloL D vs
  | _ => true
def cloL (D : Lbl → Bool) : List AV → Bool
  | [] => true
  | a :: as1 => cloB D a && cloL D as1
end
def cloX (D : Lbl → Bool) : ABox → Bool
  | .cells _ cs => cloL D cs
  | .row _ _ xs => cloL D xs.flatten
  | .dmap es => cloL D (es.map (·.1)) && cloL D (es.map (·.2))
  | .lrec _ _ _ T => T.all fun p => cloB D p.2

mutual
theorem Cv.relabel {w : World} {O : Nat → Prop} {D : Lbl → Bool} {μ μ' : Mu} (hμ : ∀ l, D l = true → μ' l = μ l) : ∀ (a : AV) {v : Value}, cloB D a = true → Cv w O a μ v → Cv w O a μ' v
  | .int k n, v, hc, h => by simpa [Cv] using h
  | .bool b, v, hc, h => by simpa [Cv] using h
  | .ub, v, hc, h => by simpa [Cv] using h
  | .str s, v, hc, h => by simpa [Cv] using h
  | .lst sz xs, v, hc, h => by simpa only [Cv] using h
  | .emp, v, hc, h => by simpa [Cv] using h
  | .own l n, v, hc, h => by simp only [cloB] at hc; simp only [Cv, hμ l hc] at h ⊢; exact h
  | .agg cs, v, hc, h => by
    simp only [cloB] at hc
    simp only [Cv] at h ⊢
    obtain ⟨vs, h1, h2, h3⟩ := h
    exact ⟨vs, h1, CvL.relabel hμ cs hc h2, h3⟩
  | .pp cs, v, hc, h => by simpa only [Cv] using h
  | .ref l off, v, hc, h => by simp only [cloB] at hc; simp only [Cv, hμ l hc] at h ⊢; exact h
  | .rp l n o, v, hc, h => by simp only [cloB] at hc; simp only [Cv, hμ l hc] at h ⊢; exact h
  | .nilp, v, hc, h => by simpa [Cv] using h
  | .fn f a b, v, hc, h => by
    simp only [cloB, Bool.and_eq_true] at hc
    simp only [Cv] at h ⊢
    obtain ⟨xs, ys, h1, h2, h3⟩ := h
    exact ⟨xs, ys, h1, CvL.relabel hμ a hc.1 h2, CvL.relabel hμ b hc.2 h3⟩
  | .nilf, v, hc, h => by simpa [Cv] using h
  | .iface t a, v, hc, h => by
    simp only [cloB] at hc
    simp only [Cv] at h ⊢
    obtain ⟨x, h1, h2⟩ := h
    exact ⟨x, h1, Cv.relabel hμ a hc h2⟩
  | .nili, v, hc, h => by simpa [Cv] using h
  | .mp l, v, hc, h => by simp only [cloB] at hc; simp only [Cv, hμ l hc] at h ⊢; exact h
  | .yv l, v, hc, h => by simp only [cloB] at hc; simp only [Cv, hμ l hc] at h ⊢; exact h
  | .nilm, v, hc, h => by simpa [Cv] using h
  | .tup vs, v, hc, h => by
    simp only [cloB] at hc
    simp only [Cv] at h ⊢
    obtain ⟨xs, h1, h2⟩ := h
    exact ⟨xs, h1, CvL.relabel hμ vs hc h2⟩
  | .gp g, v, hc, h => by simpa [Cv] using h
  | .dead, v, hc, h => by simp [Cv]
theorem CvL.relabel {w : World} {O : Nat → Prop} {D : Lbl → Bool} {μ μ' : Mu} (hμ : ∀ l, D l = true → μ' l = μ l) : ∀ (as1 : List AV) {vs : List Value}, cloL D as1 = true → CvL w O as1 μ vs → CvL w O as1 μ' vs
  | [], vs, hc, h => by simpa [CvL] using h
  | a :: as1, vs, hc, h => by
    simp only [cloL, Bool.and_eq_true] at hc
    simp only [CvL] at h ⊢
    obtain ⟨x, xs, h1, h2, h3⟩ := h
    exact ⟨x, xs, h1, Cv.relabel hμ a hc.1 h2, CvL.relabel hμ as1 hc.2 h3⟩
end
theorem CvC.of_cells {w : World} {O : Nat → Prop} {b : Nat} {cur : Array Value} {e : TypeId} {fr : Nat × Nat} (hb : w.heap[b]? = some (.cells cur e fr)) : ∀ {as1 : List AV} {vs : List Value} {k : Nat},
    CvL w O as1 (fun _ => none) vs → Ab.allOne as1 → (∀ j v, vs[j]? = some v → cur[k + j]? = some v) → CvC w O as1 b k
  | [], vs, k, h, h1, hc => by simp [CvC]
  | a :: as1, vs, k, h, h1, hc => by
    simp only [CvL] at h
    obtain ⟨x, xs, rfl, h2, h3⟩ := h
    simp only [CvC]
    refine ⟨⟨x, ?_, h2, h1 a List.mem_cons_self⟩, CvC.of_cells hb h3 (fun c hc => h1 c (List.mem_cons_of_mem _ hc)) fun j v hj => ?_⟩
    · simp only [World.cell?, hb]
      simpa using hc 0 x rfl
    · have := hc (j + 1) v (by simpa using hj)
      rwa [show k + (j + 1) = k + 1 + j from by omega] at this
theorem CvR.of_cells {w : World} {O : Nat → Prop} {b sz : Nat} {cur : Array Value} {e : TypeId} {fr : Nat × Nat} (hb : w.heap[b]? = some (.cells cur e fr)) : ∀ {xs : List (List AV)} {vs : List Value} {k : Nat},
    CvL w O xs.flatten (fun _ => none) vs → allOne xs.flatten → (∀ x ∈ xs, x.length = sz) → (∀ j v, vs[j]? = some v → cur[k + j]? = some v) → CvR w O sz xs b k
  | [], vs, k, h, h1, hl, hc => by simp [CvR]
  | x :: xs, vs, k, h, h1, hl, hc => by
    have hx := hl x List.mem_cons_self
    simp only [List.flatten_cons] at h h1
    have ht := h.take x.length
    have hd := h.drop x.length
    rw [List.take_left] at ht
    rw [List.drop_left] at hd
    simp only [CvR]
    have e1 : ∀ j v, (vs.take x.length)[j]? = some v → cur[k + j]? = some v := fun j v hj => by
      rw [List.getElem?_take] at hj
      split at hj
      · exact hc j v hj
      · cases hj
    have e2 : ∀ j v, (vs.drop x.length)[j]? = some v → cur[k + sz + j]? = some v := fun j v hj => by
      rw [List.getElem?_drop] at hj
      have := hc _ v hj
      rwa [show k + (x.length + j) = k + sz + j from by omega] at this
    exact ⟨hx, CvC.of_cells hb ht (fun c hc => h1 c (List.mem_append_left _ hc)) e1, CvR.of_cells hb hd (fun c hc => h1 c (List.mem_append_right _ hc)) (fun y hy => hl y (List.mem_cons_of_mem _ hy)) e2⟩

structure GlP where
  ng : Nat
  holds : World → Prop
  stable : ∀ w w' : World, (∀ b, b < ng → w'.heap[b]? = w.heap[b]?) → holds w → holds w'

structure Env where
  w0 : World
  μ0 : Mu
  X : Nat → Prop
def Env.O (E : Env) (μ : Mu) (b : Nat) : Prop := own μ b ∨ E.X b

structure Core (G : GlP) (E : Env) (w : World) (μ : Mu) (L : Lbl → Option ABox) : Prop where
  gl : G.holds w
  ngw : G.ng ≤ E.w0.heap.size
  ngo : ∀ b, own μ b → G.ng ≤ b
  ownlt : ∀ b, own μ b → b < w.heap.size
  Xlt : ∀ b, E.X b → b < E.w0.heap.size
  Xdis : ∀ b, E.X b → ¬ own μ b
  Xng : ∀ b, E.X b → G.ng ≤ b
  inj : ∀ l l' v v' b, μ l = some (v, some b) → μ l' = some (v', some b) → l = l'
  dom : ∀ l, (μ l).isSome = (L l).isSome
  box : ∀ l o, L l = some o → ∃ v ob, μ l = some (v, ob) ∧ BoxR w (E.O μ) o μ v ob
  os : w.os = E.w0.os
  tape : w.tape = E.w0.tape
  output : w.output = E.w0.output
  size : E.w0.heap.size ≤ w.heap.size
  frame : ∀ b, b < E.w0.heap.size → ¬ own E.μ0 b → w.heap[b]? = E.w0.heap[b]?
  fresh : ∀ b, own μ b → own E.μ0 b ∨ E.w0.heap.size ≤ b
  keep : Keeps E.μ0 μ

/-- A step in general: the world and the labels before and after. -/
theorem Core.step {G : GlP} {E : Env} {w w' : World} {μ μ' : Mu} {L L' : Lbl → Option ABox} (C : Core G E w μ L)
    (hs : w.heap.size ≤ w'.heap.size) (hos : w'.os = w.os) (htape : w'.tape = w.tape) (hout : w'.output = w.output)
    (hblk : ∀ b, b < w.heap.size → ¬ own μ b → w'.heap[b]? = w.heap[b]?)
    (hown : ∀ b, own μ' b → own μ b ∨ (w.heap.size ≤ b ∧ b < w'.heap.size)) (hk : Keeps μ μ')
    (inj : ∀ l l' v v' b, μ' l = some (v, some b) → μ' l' = some (v', some b) → l = l')
    (dom : ∀ l, (μ' l).isSome = (L' l).isSome)
    (box : Later w (E.O μ) w' (E.O μ') → ∀ l o, L' l = some o → ∃ v ob, μ' l = some (v, ob) ∧ BoxR w' (E.O μ') o μ' v ob) :
    Core G E w' μ' L' ∧ Later w (E.O μ) w' (E.O μ') := by
  have hX : ∀ b, E.X b → ¬ own μ' b := fun b hx ho => by
    rcases hown b ho with h | h
    · exact C.Xdis b hx h
    · have := C.Xlt b hx; have := C.size; omega
  have later : Later w (E.O μ) w' (E.O μ') := ⟨hs, fun b hb ho => ⟨hblk b hb fun h => ho (.inl h), by
    rintro (h | h)
    · rcases hown b h with h | h
      · exact ho (.inl h)
      · omega
    · exact ho (.inr h)⟩⟩
  refine ⟨⟨?_, C.ngw, ?_, ?_, C.Xlt, hX, C.Xng, inj, dom, box later, hos.trans C.os, htape.trans C.tape, hout.trans C.output, Nat.le_trans C.size hs, ?_, ?_, C.keep.trans hk⟩, later⟩
  · refine G.stable w w' (fun b hb => hblk b ?_ fun h => ?_) C.gl
    · have := C.ngw; have := C.size; omega
    · have := C.ngo b h; omega
  · intro b h
    rcases hown b h with h | h
    · exact C.ngo b h
    · have := C.ngw; have := C.size; omega
  · intro b h
    rcases hown b h with h | h
    · have := C.ownlt b h; omega
    · exact h.2
  · intro b hb h0
    rw [hblk b (by have := C.size; omega) fun h => ?_]
    · exact C.frame b hb h0
    · rcases C.fresh b h with h | h
      · exact h0 h
      · omega
  · intro b h
    rcases hown b h with h | h
    · exact C.fresh b h
    · exact .inr (by have := C.size; omega)

theorem Core.box_kept {G : GlP} {E : Env} {w w' : World} {μ μ' : Mu} {L : Lbl → Option ABox} (C : Core G E w μ L) {O' : Nat → Prop} (hl : Later w (E.O μ) w' O') (hk : Keeps μ μ')
    {l : Lbl} {o : ABox} (h : L l = some o) (hsame : μ' l = μ l) (hblk : ∀ v b, μ l = some (v, some b) → w'.heap[b]? = w.heap[b]?) :
    ∃ v ob, μ' l = some (v, ob) ∧ BoxR w' O' o μ' v ob := by
  obtain ⟨v, ob, h1, h2⟩ := C.box l o h
  exact ⟨v, ob, hsame.trans h1, h2.mono hl hk fun b e => hblk v b (by rw [h1, e])⟩

/-- Nothing but the tape's count turns. -/
theorem Core.heap {G : GlP} {E : Env} {w w' : World} {μ : Mu} {L : Lbl → Option ABox} (C : Core G E w μ L) (hh : w'.heap = w.heap) (hos : w'.os = w.os) (htape : w'.tape = w.tape) (hout : w'.output = w.output) :
    Core G E w' μ L ∧ Later w (E.O μ) w' (E.O μ) :=
  C.step (by rw [hh]; exact Nat.le_refl _) hos htape hout (fun b _ _ => by rw [hh]) (fun b h => .inl h) (Keeps.refl μ) C.inj C.dom fun hl l o h => C.box_kept hl (Keeps.refl μ) h rfl fun v b _ => by rw [hh]

theorem heap_alloc (w : World) (o : Obj) (b : Nat) (h : b < w.heap.size) : (w.alloc o).heap[b]? = w.heap[b]? := by
  show (w.heap.push o)[b]? = _
  simp [Array.getElem?_push, Nat.ne_of_lt h]
theorem heap_alloc_self (w : World) (o : Obj) : (w.alloc o).heap[w.heap.size]? = some o := by
  show (w.heap.push o)[w.heap.size]? = _
  simp
theorem heap_alloc_size (w : World) (o : Obj) : (w.alloc o).heap.size = w.heap.size + 1 := by
  show (w.heap.push o).size = _
  simp

/-- A new block that nobody owns. -/
theorem Core.anon {G : GlP} {E : Env} {w : World} {μ : Mu} {L : Lbl → Option ABox} (C : Core G E w μ L) (o : Obj) :
    Core G E (w.alloc o) μ L ∧ Later w (E.O μ) (w.alloc o) (E.O μ) :=
  C.step (by rw [heap_alloc_size]; omega) rfl rfl rfl (fun b hb _ => heap_alloc w o b hb) (fun b h => .inl h) (Keeps.refl μ) C.inj C.dom fun hl l o' h =>
    C.box_kept hl (Keeps.refl μ) h rfl fun v b hb => heap_alloc w o b (C.ownlt b ⟨l, v, hb⟩)

def updM (μ : Mu) (l : Lbl) (x : Value × Option Nat) : Mu := fun k => if lbeq l k then some x else μ k
theorem updM_same (μ : Mu) (l : Lbl) (x) : updM μ l x l = some x := by simp [updM, lbeq_iff.2 rfl]
theorem updM_other (μ : Mu) {l k : Lbl} (x) (h : l ≠ k) : updM μ l x k = μ k := by simp [updM, lbeq_false.2 h]
theorem ovr_one_same (L : Lbl → Option ABox) (l : Lbl) (o : ABox) : ovr L [(l, o)] l = some o := by simp [ovr, getL, lbeq_iff.2 rfl]
theorem ovr_one_other (L : Lbl → Option ABox) {l k : Lbl} (o : ABox) (h : l ≠ k) : ovr L [(l, o)] k = L k := by simp [ovr, getL, lbeq_false.2 h]

/-- A new label with a new block of its own (or with none). -/
theorem Core.newBox {G : GlP} {E : Env} {w w' : World} {μ : Mu} {L : Lbl → Option ABox} (C : Core G E w μ L) (l : Lbl) (hl : L l = none) (v : Value) (ob : Option Nat) (o : ABox)
    (hs : w.heap.size ≤ w'.heap.size) (hos : w'.os = w.os) (htape : w'.tape = w.tape) (hout : w'.output = w.output)
    (hblk : ∀ b, b < w.heap.size → w'.heap[b]? = w.heap[b]?) (hob : ∀ b, ob = some b → w.heap.size ≤ b ∧ b < w'.heap.size)
    (hbox : ∀ O' μ', Later w (E.O μ) w' O' → Keeps μ μ' → BoxR w' O' o μ' v ob) :
    Core G E w' (updM μ l (v, ob)) (ovr L [(l, o)]) ∧ Later w (E.O μ) w' (E.O (updM μ l (v, ob))) ∧ Keeps μ (updM μ l (v, ob)) := by
  have hμ : μ l = none := by
    have := C.dom l
    rw [hl] at this
    cases h : μ l
    · rfl
    · rw [h] at this; simp at this
  have hk : Keeps μ (updM μ l (v, ob)) := fun k x y hx => ⟨x, y, by rw [updM_other μ _ (fun e => by subst e; rw [hμ] at hx; cases hx), hx], kp.refl x⟩
  have hne : ∀ k x, μ k = some x → l ≠ k := fun k x hx e => by subst e; rw [hμ] at hx; cases hx
  have := C.step (w' := w') (μ' := updM μ l (v, ob)) (L' := ovr L [(l, o)]) hs hos htape hout (fun b hb _ => hblk b hb)
    (fun b ⟨k, x, hx⟩ => by
      by_cases e : l = k
      · subst e
        rw [updM_same] at hx
        injection hx with hx
        injection hx with _ hx
        exact .inr (hob b hx)
      · rw [updM_other μ _ e] at hx
        exact .inl ⟨k, x, hx⟩) hk
    (fun k k' x x' b h h' => by
      by_cases e : l = k <;> by_cases e' : l = k'
      · exact e.symm.trans e'
      · subst e
        rw [updM_same] at h
        rw [updM_other μ _ e'] at h'
        injection h with h
        injection h with _ h
        have := hob b h
        have := C.ownlt b ⟨k', x', h'⟩
        omega
      · subst e'
        rw [updM_same] at h'
        rw [updM_other μ _ e] at h
        injection h' with h'
        injection h' with _ h'
        have := hob b h'
        have := C.ownlt b ⟨k, x, h⟩
        omega
      · rw [updM_other μ _ e] at h
        rw [updM_other μ _ e'] at h'
        exact C.inj _ _ _ _ b h h')
    (fun k => by
      by_cases e : l = k
      · subst e; rw [updM_same, ovr_one_same]; rfl
      · rw [updM_other μ _ e, ovr_one_other L _ e]; exact C.dom k)
    (fun hla k o' ho => by
      by_cases e : l = k
      · subst e
        rw [ovr_one_same] at ho
        injection ho with ho
        subst ho
        exact ⟨v, ob, updM_same _ _ _, hbox _ _ hla hk⟩
      · rw [ovr_one_other L _ e] at ho
        exact C.box_kept hla hk ho (updM_other μ _ e) fun x b hx => hblk b (C.ownlt b ⟨k, x, hx⟩))
  exact ⟨this.1, this.2, hk⟩

/-- The box of a label is changed, perhaps to a new block; nothing else is. -/
theorem Core.setBox {G : GlP} {E : Env} {w w' : World} {μ : Mu} {L : Lbl → Option ABox} (C : Core G E w μ L) (l : Lbl) (v0 : Value) (ob0 : Option Nat) (hl : μ l = some (v0, ob0))
    (v : Value) (ob : Option Nat) (hkp : kp v0 v) (o : ABox)
    (hs : w.heap.size ≤ w'.heap.size) (hos : w'.os = w.os) (htape : w'.tape = w.tape) (hout : w'.output = w.output)
    (hblk : ∀ b, b < w.heap.size → ob0 ≠ some b → w'.heap[b]? = w.heap[b]?) (hob : ∀ b, ob = some b → ob0 = some b ∨ (w.heap.size ≤ b ∧ b < w'.heap.size))
    (hbox : ∀ O' μ', Later w (E.O μ) w' O' → Keeps μ μ' → BoxR w' O' o μ' v ob) :
    Core G E w' (updM μ l (v, ob)) (ovr L [(l, o)]) ∧ Later w (E.O μ) w' (E.O (updM μ l (v, ob))) ∧ Keeps μ (updM μ l (v, ob)) := by
  have hk : Keeps μ (updM μ l (v, ob)) := fun k x y hx => by
    by_cases e : l = k
    · subst e
      rw [hl] at hx
      injection hx with hx
      injection hx with h1 h2
      subst h1 h2
      exact ⟨v, ob, updM_same _ _ _, hkp⟩
    · exact ⟨x, y, by rw [updM_other μ _ e, hx], kp.refl x⟩
  have key : ∀ k x b, k ≠ l → μ k = some (x, some b) → b < w.heap.size ∧ ob0 ≠ some b := fun k x b hne hx =>
    ⟨C.ownlt b ⟨k, x, hx⟩, fun e => hne (C.inj _ _ _ _ b hx (by rw [hl, e]))⟩
  have := C.step (w' := w') (μ' := updM μ l (v, ob)) (L' := ovr L [(l, o)]) hs hos htape hout
    (fun b hb ho => hblk b hb fun e => ho ⟨l, v0, by rw [hl, e]⟩)
    (fun b ⟨k, x, hx⟩ => by
      by_cases e : l = k
      · subst e
        rw [updM_same] at hx
        injection hx with hx
        injection hx with _ hx
        exact (hob b hx).imp (fun h => ⟨l, v0, by rw [hl, h]⟩) id
      · rw [updM_other μ _ e] at hx
        exact .inl ⟨k, x, hx⟩) hk
    (fun k k' x x' b h h' => by
      by_cases e : l = k <;> by_cases e' : l = k'
      · exact e.symm.trans e'
      · subst e
        rw [updM_same] at h
        rw [updM_other μ _ e'] at h'
        injection h with h
        injection h with _ h
        have k' := key _ _ _ (Ne.symm e') h'
        rcases hob b h with h | h
        · exact absurd h k'.2
        · omega
      · subst e'
        rw [updM_same] at h'
        rw [updM_other μ _ e] at h
        injection h' with h'
        injection h' with _ h'
        have k' := key _ _ _ (Ne.symm e) h
        rcases hob b h' with h | h
        · exact absurd h k'.2
        · omega
      · rw [updM_other μ _ e] at h
        rw [updM_other μ _ e'] at h'
        exact C.inj _ _ _ _ b h h')
    (fun k => by
      by_cases e : l = k
      · subst e; rw [updM_same, ovr_one_same]; rfl
      · rw [updM_other μ _ e, ovr_one_other L _ e]; exact C.dom k)
    (fun hla k o' ho => by
      by_cases e : l = k
      · subst e
        rw [ovr_one_same] at ho
        injection ho with ho
        subst ho
        exact ⟨v, ob, updM_same _ _ _, hbox _ _ hla hk⟩
      · rw [ovr_one_other L _ e] at ho
        exact C.box_kept hla hk ho (updM_other μ _ e) fun x b hx => by
          have := key _ _ _ (Ne.symm e) hx
          exact hblk b this.1 this.2)
  exact ⟨this.1, this.2, hk⟩

/-! An operation, and what it comes to. -/
def OpGives (P : Program) (o : Oper) (ρ : Operand → Value) (w : World) (R : Value → World → Prop) : Prop :=
  match (execOp ρ o).run P w with
  | .ok (.value v) w' => R v w'
  | .ok .skip w' => R undef w'
  | .ok (.enter f args) w' => Calls P f args w' fun | .returned v, w'' => R v w'' | _, _ => False
  | .ok (.round l f tmps assign body) w' => RoundIn Fence.wide 0 P l f tmps assign body w' fun | .returned v, w'' => R v w'' | _, _ => False
  | _ => False

theorem OpGives.mono {P : Program} {o : Oper} {ρ : Operand → Value} {w : World} {R R' : Value → World → Prop} (h : ∀ v w', R v w' → R' v w') (hg : OpGives P o ρ w R) : OpGives P o ρ w R' := by
  unfold OpGives at *
  split at hg
  · exact h _ _ hg
  · exact h _ _ hg
  · exact hg.mono fun e w' he => by cases e <;> first | exact h _ _ he | exact he
  · exact hg.mono fun e w' he => by cases e <;> first | exact h _ _ he | exact he
  · exact hg.elim

/-- The fence that lets all in; in a round, or not. -/
def wr (ro : Option Nat) : Fence := { Fence.wide with round := ro }
theorem wr_none : wr none = Fence.wide := rfl
theorem semAt_gives {P : Program} {o : Oper} {ρ : Operand → Value} {w : World} {R : Value → World → Prop} (hg : OpGives P o ρ w R) (ro : Option Nat) : o.semAt ro ρ = execOp ρ o := by
  refine Oper.semAt_eq ro ρ o fun c hc => ?_
  unfold OpGives at hg
  have he : (execOp ρ o).run P w = ((resolve ρ c o.type).run P w).andThen fun d w' => .ok (.defer d) w' := by
    simp only [execOp, hc, Sem.run_bind]
    rfl
  rw [he] at hg
  cases hr : (resolve ρ c o.type).run P w with
  | ok d w' => rw [hr] at hg; exact hg
  | halt x w' => rw [hr] at hg; exact hg
theorem OpGives.wp {P : Program} {ro : Option Nat} {o : Oper} {a : Act} {w : World} {R : Value → World → Prop} {next : Act → World → Prop} {Q : Exit → Act → World → Prop}
    (hg : OpGives P o a.eval w R) (h : ∀ v w', R v w' → next (a.put o.dst v) w') : o.wpIn (wr ro) 0 P a w next Q := by
  refine ⟨fun _ _ => trivial, ?_⟩
  rw [semAt_gives hg]
  unfold OpGives at hg
  split at hg
  · rename_i e; rw [e]; exact h _ _ hg
  · rename_i e; rw [e]; exact h _ _ hg
  · rename_i e; rw [e]
    refine ⟨fun h => (by cases h), ?_⟩
    have := callsIn_wide (n := 0) |>.2 hg
    exact CallsIn.mono (F := wr ro) this fun e w' he => by cases e <;> first | exact h _ _ he | exact he.elim
  · rename_i e; rw [e]
    refine ⟨fun h => (by cases h), ?_⟩
    exact RoundIn.mono (F := wr ro) hg fun e w' he => by cases e <;> first | exact h _ _ he | exact he.elim
  · exact hg.elim

def Tri (P : Program) (G : GlP) (o : Oper) (V : Operand → AV) (fp : BL) (r : AV) (gp : BL) : Prop :=
  ∀ (E : Env) (w : World) (μ : Mu) (Lf : Lbl → Option ABox) (ρ : Operand → Value), Core G E w μ Lf → (∀ l b, getL fp l = some b → Lf l = some b) →
    (∀ l b, getL gp l = some b → (getL fp l).isSome = true ∨ Lf l = none) → (∀ x ∈ o.op.operands, Cv w (E.O μ) (V x) μ (ρ x)) → (∀ v, ρ (.const v) = v) →
    OpGives P o ρ w fun v w' => ∃ μ', Core G E w' μ' (ovr Lf gp) ∧ Later w (E.O μ) w' (E.O μ') ∧ Keeps μ μ' ∧ Cv w' (E.O μ') r μ' v

/-- An operation that only computes. -/
theorem tri_pure {P : Program} {G : GlP} {o : Oper} {V : Operand → AV} {fp : BL} {r : AV}
    (h : ∀ (E : Env) (w : World) (μ : Mu) (Lf : Lbl → Option ABox) (ρ : Operand → Value), Core G E w μ Lf → (∀ l b, getL fp l = some b → Lf l = some b) →
      (∀ x ∈ o.op.operands, Cv w (E.O μ) (V x) μ (ρ x)) → ∃ v, (execOp ρ o).run P w = .ok (.value v) w ∧ Cv w (E.O μ) r μ v) : Tri P G o V fp r [] := by
  intro E w μ Lf ρ C hf _ hv _
  obtain ⟨v, h1, h2⟩ := h E w μ Lf ρ C hf hv
  unfold OpGives
  rw [h1]
  exact ⟨μ, by rw [ovr_nil]; exact C, Later.refl _ _, Keeps.refl _, h2⟩
theorem tri_pureC {P : Program} {G : GlP} {o : Oper} {V : Operand → AV} {fp : BL} {r : AV}
    (h : ∀ (E : Env) (w : World) (μ : Mu) (Lf : Lbl → Option ABox) (ρ : Operand → Value), Core G E w μ Lf → (∀ l b, getL fp l = some b → Lf l = some b) →
      (∀ x ∈ o.op.operands, Cv w (E.O μ) (V x) μ (ρ x)) → (∀ v, ρ (.const v) = v) → ∃ v, (execOp ρ o).run P w = .ok (.value v) w ∧ Cv w (E.O μ) r μ v) : Tri P G o V fp r [] := by
  intro E w μ Lf ρ C hf _ hv hc
  obtain ⟨v, h1, h2⟩ := h E w μ Lf ρ C hf hv hc
  unfold OpGives
  rw [h1]
  exact ⟨μ, by rw [ovr_nil]; exact C, Later.refl _ _, Keeps.refl _, h2⟩
end Go.Ab
/- The framework of abstract states, part 3: the operations of a region, in the text's order and in every order. -/
set_option linter.unusedVariables false
namespace Go.Ab

def ofValue : Value → AV
  | .int k n => .int k n
  | .bool b => .bool b
  | .string s => cond (Nat.ble s.data.toList.length 9223372036854775807) (.str s.data.toList) .dead
  | .pointer none => .nilp
  | .slice none 0 0 => .emp
  | .map none => .nilm
  | .nilFunc => .nilf
  | .nilIface => .nili
  | .tuple ⟨[]⟩ => .tup []
  | _ => .dead
theorem Cv.ofValue (w : World) (O : Nat → Prop) (μ : Mu) (v : Value) : Cv w O (ofValue v) μ v := by
  unfold Ab.ofValue
  split <;> try (simp [Cv, CvL]; done)
  · rename_i s
    cases h : Nat.ble s.data.toList.length 9223372036854775807
    · simp [Cv]
    · simp only [cond_true, Cv, maxLen]
      exact ⟨by first | trivial | rfl, Nat.le_of_ble_eq_true h⟩

def evT (T : Nat → AV) : Operand → AV
  | .tmp t => T t
  | .const v => ofValue v
  | .global g => .gp g
  | .func f => .fn (.func f) [] []

structure Stp where
  o : Oper
  ex : Bool
  r : AV
  fp : BL
  gp : BL
  cls : Nat

abbrev SF := (Nat → AV) × (Lbl → Option ABox)

def guardOK (ops : Array Oper) (o : Oper) (T : Nat → AV) (ex : Bool) : Prop :=
  match o.guard with
  | none => ex = true
  | some (j, want) => match (ops[j]?).bind (·.dst) with
    | some d => (∃ b, T d = .bool b ∧ ex = (b == want)) ∨ (T d = .tup [] ∧ ex = false)
    | none => False

/-- What an operation does to boxes, as a number: 0 nothing, 1 it reads, 2 it makes, 3 it writes; from 4 on: of one label alone. -/
def lcode (l : Lbl) : Nat := l.1 * 65536 + l.2
def baseC : Nat → Nat
  | 0 => 0
  | 1 => 1
  | 2 => 2
  | 3 => 3
  | n + 4 => match n % 3 with | 0 => 1 | 1 => 3 | _ => 2
def codeC (c : Nat) : Nat := (c - 4) / 3
def rdC (l : Lbl) : Nat := 3 * lcode l + 4
def wrC (l : Lbl) : Nat := 3 * lcode l + 1 + 4
def mkC (l : Lbl) : Nat := 3 * lcode l + 2 + 4
def Cls (c : Nat) (fp gp : BL) : Prop := (match baseC c with | 0 => fp = [] ∧ gp = [] | 1 => gp = [] | 2 => fp = [] | _ => True) ∧ (4 ≤ c → ∀ l, (getL fp l).isSome = true ∨ (getL gp l).isSome = true → lcode l = codeC c)
theorem Cls.none : Cls 0 [] [] := ⟨⟨rfl, rfl⟩, fun h => by omega⟩
theorem Cls.any {fp gp : BL} : Cls 3 fp gp := ⟨trivial, fun h => by omega⟩
theorem Cls.sees {fp : BL} : Cls 1 fp [] := ⟨rfl, fun h => by omega⟩
theorem Cls.news {gp : BL} : Cls 2 [] gp := ⟨rfl, fun h => by omega⟩
theorem base_rd (l : Lbl) : baseC (rdC l) = 1 := by simp [rdC, baseC]
theorem base_wr (l : Lbl) : baseC (wrC l) = 3 := by
  show (match (3 * lcode l + 1) % 3 with | 0 => 1 | 1 => 3 | _ => 2) = 3
  rw [show (3 * lcode l + 1) % 3 = 1 by omega]
  rfl
theorem base_mk (l : Lbl) : baseC (mkC l) = 2 := by
  show (match (3 * lcode l + 2) % 3 with | 0 => 1 | 1 => 3 | _ => 2) = 2
  rw [show (3 * lcode l + 2) % 3 = 2 by omega]
  rfl
theorem one_key {l k : Lbl} {x : ABox} (h : (getL [(l, x)] k).isSome = true) : l = k := by
  simp only [getL] at h
  cases hb : lbeq l k with
  | false => rw [hb] at h; cases h
  | true => exact lbeq_iff.1 hb
theorem Cls.rd {l : Lbl} {x : ABox} : Cls (rdC l) [(l, x)] [] := by
  refine ⟨by rw [base_rd]; exact rfl, fun _ k h => ?_⟩
  rcases h with h | h
  · rw [← one_key h]; simp [codeC, rdC]
  · simp [getL] at h
theorem Cls.wr {l : Lbl} {x y : ABox} : Cls (wrC l) [(l, x)] [(l, y)] := by
  refine ⟨by rw [base_wr]; trivial, fun _ k h => ?_⟩
  have : l = k := by rcases h with h | h <;> exact one_key h
  rw [← this]; simp [codeC, wrC]; omega
theorem Cls.mk_ {l : Lbl} {x : ABox} : Cls (mkC l) [] [(l, x)] := by
  refine ⟨by rw [base_mk]; exact rfl, fun _ k h => ?_⟩
  rcases h with h | h
  · simp [getL] at h
  · rw [← one_key h]; simp [codeC, mkC]; omega

structure Stp.pre (P : Program) (G : GlP) (N : Nat) (ops : Array Oper) (s : Stp) (S : SF) : Prop where
  guard : guardOK ops s.o S.1 s.ex
  tri : s.ex = true → Tri P G s.o (evT S.1) s.fp s.r s.gp
  skip : s.ex = false → s.r = .tup [] ∧ s.fp = [] ∧ s.gp = []
  fp : ∀ l b, getL s.fp l = some b → S.2 l = some b
  gp : ∀ l b, getL s.gp l = some b → (getL s.fp l).isSome = true ∨ S.2 l = none
  dst : ∀ d, s.o.dst = some d → d < N
  cls : Cls s.cls s.fp s.gp

def Stp.app (s : Stp) (S : SF) : SF := (fun t => if s.o.dst = some t then s.r else S.1 t, ovr S.2 s.gp)

def compat0 (c d : Nat) : Bool := match c, d with
  | 0, _ => true | _, 0 => true | 1, 1 => true | 1, 2 => true | 2, 2 => true | _, _ => false
def compat (c d : Nat) : Bool := (Nat.ble 4 c && Nat.ble 4 d && !(Nat.beq (codeC c) (codeC d))) || compat0 (baseC c) (baseC d)

theorem compat_cases0 {c d : Nat} (h : compat0 c d = true) : c = 0 ∨ d = 0 ∨ (c = 1 ∧ d = 1) ∨ (c = 1 ∧ d = 2) ∨ (c = 2 ∧ d = 2) := by
  unfold compat0 at h
  split at h <;> simp_all

theorem Tri.congr {P : Program} {G : GlP} {o : Oper} {V V' : Operand → AV} {fp : BL} {r : AV} {gp : BL} (h : ∀ x ∈ o.op.operands, V' x = V x) (ht : Tri P G o V fp r gp) : Tri P G o V' fp r gp :=
  fun E w μ Lf ρ C hf hg hv hc => ht E w μ Lf ρ C hf hg (fun x hx => h x hx ▸ hv x hx) hc

theorem evT_app {T : Nat → AV} {dst : Option Tmp} {r : AV} {ops : Array Oper} {o : Oper} (h : ∀ d, dst = some d → d ∉ o.looksAt ops) :
    ∀ x ∈ o.op.operands, evT (fun t => if dst = some t then r else T t) x = evT T x := by
  intro x hx
  cases x with
  | tmp t =>
    simp only [evT]
    rw [if_neg]
    intro e
    exact h t e (List.mem_append_left _ (List.mem_filterMap.2 ⟨.tmp t, by simpa using hx, rfl⟩))
  | _ => rfl

theorem guardOK_app {T : Nat → AV} {dst : Option Tmp} {r : AV} {ops : Array Oper} {o : Oper} {ex : Bool} (h : ∀ d, dst = some d → d ∉ o.looksAt ops) :
    guardOK ops o (fun t => if dst = some t then r else T t) ex ↔ guardOK ops o T ex := by
  unfold guardOK
  cases hg : o.guard with
  | none => simp
  | some p =>
    obtain ⟨j, want⟩ := p
    cases hd : (ops[j]?).bind (·.dst) with
    | none => simp [hd]
    | some d =>
      simp only [hd]
      have hne : ¬ dst = some d := fun e => h d e (List.mem_append_right _ (by simp [hg, hd]))
      simp [hne]

theorem getL_none_of {L : Lbl → Option ABox} {gp : BL} {l : Lbl} {b : ABox} (h : ovr L gp l = none) : getL gp l = none ∧ L l = none := by
  unfold ovr at h
  split at h
  · cases h
  · rename_i e; exact ⟨e, h⟩
theorem ovr_of_none {L : Lbl → Option ABox} {gp : BL} {l : Lbl} (h : getL gp l = none) : ovr L gp l = L l := by
  unfold ovr; rw [h]
theorem ovr_comm {L : Lbl → Option ABox} {a b : BL} (h : ∀ l, getL a l = none ∨ getL b l = none) : ovr (ovr L a) b = ovr (ovr L b) a := by
  funext l
  unfold ovr
  rcases h l with h | h <;> rw [h] <;> cases getL a l <;> cases getL b l <;> rfl

theorem Stp.swap {P : Program} {G : GlP} {N : Nat} {ops : Array Oper} {s t : Stp} {S : SF} (hs : s.pre P G N ops S) (ht : t.pre P G N ops (s.app S)) (ha : s.o.apart ops t.o = true) (hc : compat s.cls t.cls = true) :
    t.pre P G N ops S ∧ s.pre P G N ops (t.app S) ∧ t.app (s.app S) = s.app (t.app S) := by
  obtain ⟨a1, a2, a3⟩ := Oper.apart_spec ha
  obtain ⟨g1, t1, k1, f1, p1, d1, c1⟩ := hs
  obtain ⟨g2, t2, k2, f2, p2, d2, c2⟩ := ht
  have hL : (∀ l b, getL t.fp l = some b → S.2 l = some b) ∧ (∀ l b, getL t.gp l = some b → (getL t.fp l).isSome = true ∨ S.2 l = none) ∧
      (∀ l b, getL s.fp l = some b → ovr S.2 t.gp l = some b) ∧ (∀ l b, getL s.gp l = some b → (getL s.fp l).isSome = true ∨ ovr S.2 t.gp l = none) ∧
      (∀ l, getL s.gp l = none ∨ getL t.gp l = none) := by
    simp only [Stp.app] at f2 p2
    have hc' : (Nat.ble 4 s.cls && Nat.ble 4 t.cls && !(Nat.beq (codeC s.cls) (codeC t.cls))) = true ∨ compat0 (baseC s.cls) (baseC t.cls) = true := by
      unfold compat at hc
      cases h : (Nat.ble 4 s.cls && Nat.ble 4 t.cls && !(Nat.beq (codeC s.cls) (codeC t.cls))) with
      | true => exact .inl rfl
      | false => rw [h] at hc; exact .inr hc
    rcases hc' with hc | hc
    · simp only [Bool.and_eq_true, Bool.not_eq_true'] at hc
      obtain ⟨⟨h4, h5⟩, h6⟩ := hc
      have q1 := c1.2 (Nat.le_of_ble_eq_true h4)
      have q2 := c2.2 (Nat.le_of_ble_eq_true h5)
      have hne : codeC s.cls ≠ codeC t.cls := fun e => by rw [e, Nat.beq_refl] at h6; cases h6
      have sg : ∀ l, (getL s.gp l).isSome = true → (getL t.fp l) = none ∧ getL t.gp l = none := fun l h => by
        have e := q1 l (.inr h)
        constructor
        · cases hx : getL t.fp l with
          | none => rfl
          | some b => exact absurd (e.symm.trans (q2 l (.inl (by rw [hx]; rfl)))) hne
        · cases hx : getL t.gp l with
          | none => rfl
          | some b => exact absurd (e.symm.trans (q2 l (.inr (by rw [hx]; rfl)))) hne
      have sf : ∀ l, (getL s.fp l).isSome = true → getL t.gp l = none := fun l h => by
        have e := q1 l (.inl h)
        cases hx : getL t.gp l with
        | none => rfl
        | some b => exact absurd (e.symm.trans (q2 l (.inr (by rw [hx]; rfl)))) hne
      refine ⟨fun l b h => ?_, fun l b h => ?_, fun l b h => ?_, fun l b h => ?_, fun l => ?_⟩
      · have := f2 l b h
        cases hx : getL s.gp l with
        | none => rwa [ovr_of_none hx] at this
        | some c => have := (sg l (by rw [hx]; rfl)).1; rw [h] at this; cases this
      · rcases p2 l b h with h2 | h2
        · exact .inl h2
        · cases hx : getL s.gp l with
          | none => rw [ovr_of_none hx] at h2; exact .inr h2
          | some c => have := (sg l (by rw [hx]; rfl)).2; rw [h] at this; cases this
      · rw [ovr_of_none (sf l (by rw [h]; rfl))]
        exact f1 l b h
      · rw [ovr_of_none (sg l (by rw [h]; rfl)).2]
        exact p1 l b h
      · cases hx : getL s.gp l with
        | none => exact .inl rfl
        | some c => exact .inr (sg l (by rw [hx]; rfl)).2
    have c1' := c1.1
    have c2' := c2.1
    have cases4 : (s.gp = [] ∧ t.gp = []) ∨ (s.gp = [] ∧ t.fp = []) ∨ (s.fp = [] ∧ t.fp = []) ∨ (s.fp = [] ∧ s.gp = []) ∨ (t.fp = [] ∧ t.gp = []) := by
      rcases compat_cases0 hc with e | e | ⟨e, e'⟩ | ⟨e, e'⟩ | ⟨e, e'⟩
      · rw [e] at c1'; exact .inr (.inr (.inr (.inl c1')))
      · rw [e] at c2'; exact .inr (.inr (.inr (.inr c2')))
      · rw [e] at c1'; rw [e'] at c2'; exact .inl ⟨c1', c2'⟩
      · rw [e] at c1'; rw [e'] at c2'; exact .inr (.inl ⟨c1', c2'⟩)
      · rw [e] at c1'; rw [e'] at c2'; exact .inr (.inr (.inl ⟨c1', c2'⟩))
    rcases cases4 with ⟨e1, e2⟩ | ⟨e1, e2⟩ | ⟨e1, e2⟩ | ⟨e1, e2⟩ | ⟨e1, e2⟩
    · simp only [e1, ovr_nil] at f2 p2
      simp only [e1, e2, ovr_nil]
      exact ⟨f2, fun l b h => by simp [getL] at h, f1, fun l b h => by simp [getL] at h, fun l => .inl rfl⟩
    · simp only [e1, ovr_nil] at f2 p2
      simp only [e1, e2] at *
      refine ⟨f2, p2, fun l b h => ?_, fun l b h => by simp [getL] at h, fun l => .inl rfl⟩
      have h1 := f1 l b h
      cases hg : getL t.gp l with
      | none => rw [ovr_of_none hg]; exact h1
      | some c =>
        rcases p2 l c hg with h2 | h2
        · simp [getL] at h2
        · rw [h1] at h2; cases h2
    · simp only [e1, e2] at *
      have key : ∀ l c, getL t.gp l = some c → getL s.gp l = none ∧ S.2 l = none := fun l c h => by
        rcases p2 l c h with h2 | h2
        · simp [getL] at h2
        · exact getL_none_of (b := c) h2
      refine ⟨fun l b h => by simp [getL] at h, fun l b h => .inr (key l b h).2, fun l b h => by simp [getL] at h, fun l b h => ?_, fun l => ?_⟩
      · refine .inr ?_
        cases hg : getL t.gp l with
        | none =>
          rw [ovr_of_none hg]
          rcases p1 l b h with h2 | h2
          · simp [getL] at h2
          · exact h2
        | some c => rw [(key l c hg).1] at h; cases h
      · cases hg : getL t.gp l with
        | none => exact .inr rfl
        | some c => exact .inl (key l c hg).1
    · simp only [e1, e2, ovr_nil] at *
      exact ⟨f2, p2, fun l b h => by simp [getL] at h, fun l b h => by simp [getL] at h, fun l => .inl rfl⟩
    · simp only [e1, e2, ovr_nil] at *
      exact ⟨fun l b h => by simp [getL] at h, fun l b h => by simp [getL] at h, f1, p1, fun l => .inr rfl⟩
  obtain ⟨l1, l2, l3, l4, l5⟩ := hL
  refine ⟨⟨(guardOK_app a1).1 g2, fun h => (t2 h).congr fun x hx => (evT_app a1 x hx).symm, k2, l1, l2, d2, c2⟩,
    ⟨(guardOK_app a3).2 g1, fun h => (t1 h).congr fun x hx => evT_app a3 x hx, k1, l3, l4, d1, c1⟩, ?_⟩
  simp only [Stp.app]
  refine Prod.ext (funext fun k => ?_) (ovr_comm l5)
  simp only
  by_cases e1 : s.o.dst = some k <;> by_cases e2 : t.o.dst = some k
  · exact absurd e2 (a2 k e1)
  · simp [e1, e2]
  · simp [e1, e2]
  · simp [e1, e2]

def Run (P : Program) (G : GlP) (N : Nat) (ops : Array Oper) : List (Nat × Stp) → SF → SF → Prop
  | [], S, S' => S' = S
  | (i, s) :: r, S, S' => ops[i]? = some s.o ∧ s.pre P G N ops S ∧ Run P G N ops r (s.app S) S'

theorem Run.bubble {P : Program} {G : GlP} {N : Nat} {ops : Array Oper} {i : Nat} {t : Stp} {q : List (Nat × Stp)} : ∀ (p : List (Nat × Stp)) {S S' : SF},
    Run P G N ops (p ++ (i, t) :: q) S S' → (∀ x ∈ p, x.2.o.apart ops t.o = true ∧ compat x.2.cls t.cls = true) → Run P G N ops ((i, t) :: (p ++ q)) S S'
  | [], S, S', h, _ => by simpa using h
  | (j, s) :: p, S, S', h, hp => by
    simp only [List.cons_append, Run] at h
    obtain ⟨h1, h2, h3⟩ := h
    have ih := Run.bubble p h3 fun x hx => hp x (List.mem_cons_of_mem _ hx)
    simp only [Run] at ih
    obtain ⟨k1, k2, k3⟩ := ih
    obtain ⟨a, b⟩ := hp (j, s) List.mem_cons_self
    obtain ⟨s1, s2, s3⟩ := Stp.swap h2 k2 a b
    simp only [List.cons_append, Run]
    exact ⟨k1, s1, h1, s2, by rw [← s3]; exact k3⟩

/-- The marks that loops over functions have left among the deferred calls. -/
def Marks (E : Env) (w : World) (μ : Mu) : List Deferred → Prop
  | [] => True
  | d :: ds => (∃ r, d = { target := .collected r, args := #[] } ∧ E.w0.heap.size ≤ r ∧ r < w.heap.size ∧ ¬ E.O μ r ∧ w.heap[r]? = some (.deferred (some [])) ∧ ∀ d' ∈ ds, d' ≠ d) ∧ Marks E w μ ds
theorem Marks.mono {E : Env} {w w' : World} {μ μ' : Mu} (hl : Later w (E.O μ) w' (E.O μ')) : ∀ {ds : List Deferred}, Marks E w μ ds → Marks E w' μ' ds
  | [], _ => trivial
  | d :: ds, ⟨⟨r, h1, h2, h3, h4, h5, h6⟩, h⟩ => ⟨⟨r, h1, h2, Nat.lt_of_lt_of_le h3 hl.size, (hl.keep r h3 h4).2, (hl.keep r h3 h4).1.trans h5, h6⟩, Marks.mono hl h⟩

/-- A machine's state that an abstract one stands for. -/
structure Rep (G : GlP) (E : Env) (N : Nat) (w : World) (μ : Mu) (S : SF) (a : Act) : Prop where
  core : Core G E w μ S.2
  tmps : ∀ t, Cv w (E.O μ) (S.1 t) μ (a.tmps.getD t undef)
  size : a.tmps.size = N
  defers : Marks E w μ a.defers

theorem put_getD (a : Act) (dst : Option Tmp) (v : Value) (t : Nat) : (a.put dst v).tmps.getD t undef = if dst = some t ∧ t < a.tmps.size then v else a.tmps.getD t undef := by
  cases dst with
  | none => simp [Act.put]
  | some d =>
    simp only [Act.put]
    by_cases e : d = t
    · subst e
      by_cases hl : d < a.tmps.size
      · simp [hl]
      · simp [hl]
    · simp [e, Array.getElem?_setIfInBounds_ne e]
theorem put_size (a : Act) (dst : Option Tmp) (v : Value) : (a.put dst v).tmps.size = a.tmps.size := by cases dst <;> simp [Act.put]
theorem put_def (a : Act) (dst : Option Tmp) (v : Value) : (a.put dst v).defers = a.defers := by cases dst <;> rfl

theorem Rep.put {G : GlP} {E : Env} {N : Nat} {w w' : World} {μ μ' : Mu} {S : SF} {a : Act} (R : Rep G E N w μ S a) {dst : Option Tmp} {r : AV} {v : Value} {L' : Lbl → Option ABox}
    (C : Core G E w' μ' L') (hl : Later w (E.O μ) w' (E.O μ')) (hk : Keeps μ μ') (hv : Cv w' (E.O μ') r μ' v) (hd : ∀ d, dst = some d → d < N) :
    Rep G E N w' μ' (fun t => if dst = some t then r else S.1 t, L') (a.put dst v) := by
  refine ⟨C, fun t => ?_, (put_size ..).trans R.size, (put_def a dst v).symm ▸ R.defers.mono hl⟩
  rw [put_getD]
  by_cases e : dst = some t
  · simp only [e, true_and, if_true]
    rw [if_pos (by rw [R.size]; exact hd t e)]
    exact hv
  · simp only [e, false_and, if_false]
    exact (R.tmps t).mono hl _ hk

theorem Rep.ev {G : GlP} {E : Env} {N : Nat} {w : World} {μ : Mu} {S : SF} {a : Act} (R : Rep G E N w μ S a) (x : Operand) : Cv w (E.O μ) (evT S.1 x) μ (a.eval x) := by
  cases x with
  | tmp t => exact R.tmps t
  | const v => exact Cv.ofValue _ _ _ v
  | global g => simp [evT, Act.eval, Cv]
  | func f => simp [evT, Act.eval, Cv, CvL]

theorem guard_wanted {G : GlP} {E : Env} {N : Nat} {w : World} {μ : Mu} {S : SF} {a : Act} {ops : Array Oper} {o : Oper} {ex : Bool} (R : Rep G E N w μ S a) (h : guardOK ops o S.1 ex) :
    Region.wanted o (yielded ops a.tmps) = ex := by
  unfold guardOK at h
  unfold Region.wanted
  cases hg : o.guard with
  | none => simp only [hg] at h ⊢; exact h.symm
  | some p =>
    obtain ⟨j, want⟩ := p
    simp only [hg] at h ⊢
    cases hd : (ops[j]?).bind (·.dst) with
    | none => simp only [hd] at h
    | some d =>
      simp only [hd] at h
      have ht := R.tmps d
      rcases h with ⟨b, hb, rfl⟩ | ⟨hb, rfl⟩
      · rw [hb] at ht
        simp only [Cv] at ht
        have hlt : a.tmps[d]? = some (.bool b) := by
          rw [Array.getD_eq_getD_getElem?] at ht
          cases h' : a.tmps[d]? with
          | none => rw [h'] at ht; simp [undef] at ht
          | some x => rw [h'] at ht; simpa using ht
        have hy : yielded ops a.tmps j = some b := by unfold yielded; rw [hd]; simp [hlt]
        rw [hy]
        cases b <;> cases want <;> rfl
      · rw [hb] at ht
        simp only [Cv, CvL] at ht
        obtain ⟨xs, hx, hx'⟩ := ht
        have hy : yielded ops a.tmps j = none := by
          unfold yielded
          rw [hd]
          simp only [Option.bind_some]
          rw [Array.getD_eq_getD_getElem?] at hx
          cases h' : a.tmps[d]? with
          | none => rfl
          | some x => rw [h'] at hx; simp at hx; rw [hx]
        rw [hy]; rfl

theorem step_real {P : Program} {ro : Option Nat} {G : GlP} {E : Env} {N : Nat} {w : World} {μ : Mu} {S : SF} {a : Act} {ops : Array Oper} {Q : Exit → Act → World → Prop} {i : Nat} {s : Stp} {K : Act → World → Prop}
    (R : Rep G E N w μ S a) (hi : ops[i]? = some s.o) (hp : s.pre P G N ops S) (hK : ∀ w' μ' a', Rep G E N w' μ' (s.app S) a' → K a' w') : wpOpIn (wr ro) 0 P ops Q i K a w := by
  unfold wpOpIn
  rw [hi]
  simp only [guard_wanted R hp.guard]
  cases hex : s.ex with
  | true =>
    simp only [if_true]
    refine OpGives.wp (hp.tri hex E w μ S.2 a.eval R.core hp.fp hp.gp (fun x _ => R.ev x) fun _ => rfl) ?_
    rintro v w' ⟨μ', C, hl, hk, hv⟩
    exact hK w' μ' _ (R.put C hl hk hv hp.dst)
  | false =>
    simp only [Bool.false_eq_true, if_false]
    obtain ⟨h1, h2, h3⟩ := hp.skip hex
    refine ⟨fun _ _ => trivial, hK w μ _ ?_⟩
    have := R.put (r := s.r) (v := undef) (L' := S.2) (dst := s.o.dst) R.core (Later.refl _ _) (Keeps.refl _) (by rw [h1]; exact ⟨#[], rfl, by simp [CvL]⟩) hp.dst
    unfold Stp.app
    rw [h3, ovr_nil]
    exact this

theorem run_text {P : Program} {ro : Option Nat} {G : GlP} {E : Env} {N : Nat} {ops : Array Oper} {Q : Exit → Act → World → Prop} : ∀ (l : List (Nat × Stp)) {S S' : SF} {w : World} {μ : Mu} {a : Act},
    Run P G N ops l S S' → Rep G E N w μ S a → (∀ w' μ' a', Rep G E N w' μ' S' a' → Q .normal a' w') → wpOpsIn (wr ro) 0 P ops Q (l.map (·.1)) a w
  | [], S, S', w, μ, a, h, R, hQ => by
    simp only [Run] at h
    subst h
    exact hQ _ _ _ R
  | (i, s) :: r, S, S', w, μ, a, h, R, hQ => by
    simp only [Run] at h
    obtain ⟨h1, h2, h3⟩ := h
    rw [List.map_cons, wpOpsIn_cons]
    exact step_real R h1 h2 fun w' μ' a' R' => run_text r h3 R' hQ

/-! Every order. -/
def preds (ops : Array Oper) (i : Nat) (k : Nat) : Prop := ∃ o, ops[i]? = some o ∧ ∃ e ∈ o.after, Region.binds .any e = true ∧ e.on = k

def LinR (ops : Array Oper) : (Nat → Prop) → List (Nat × Stp) → Prop
  | _, [] => True
  | X, (i, _) :: r => (∀ k, preds ops i k → X k) ∧ LinR ops (fun k => X k ∨ k = i) r
theorem LinR.mono {ops : Array Oper} : ∀ {l : List (Nat × Stp)} {X Y : Nat → Prop}, (∀ k, X k → Y k) → LinR ops X l → LinR ops Y l
  | [], X, Y, h, _ => trivial
  | (i, _) :: r, X, Y, h, hl => ⟨fun k hk => h k (hl.1 k hk), LinR.mono (fun k hk => hk.imp (h k) id) hl.2⟩
theorem LinR.remove {ops : Array Oper} {i : Nat} {t : Stp} {q : List (Nat × Stp)} : ∀ {p : List (Nat × Stp)} {X : Nat → Prop}, LinR ops X (p ++ (i, t) :: q) → LinR ops (fun k => X k ∨ k = i) (p ++ q)
  | [], X, h => h.2
  | (j, s) :: p, X, h => ⟨fun k hk => .inl (h.1 k hk), LinR.mono (fun k hk => by rcases hk with (h | h) | h <;> simp [h]) (LinR.remove h.2)⟩

theorem mem_split {i : Nat} : ∀ {l : List (Nat × Stp)}, i ∈ l.map (·.1) → ∃ p t q, l = p ++ (i, t) :: q
  | [], h => by simp at h
  | (j, s) :: r, h => by
    rcases Nat.decEq j i with hne | rfl
    · obtain ⟨p, t, q, rfl⟩ := mem_split (l := r) (by simpa [Ne.symm hne] using h)
      exact ⟨(j, s) :: p, t, q, rfl⟩
    · exact ⟨[], s, r, rfl⟩

theorem run_any {P : Program} {ro : Option Nat} {G : GlP} {E : Env} {N : Nat} {ops : Array Oper} {Q : Exit → Act → World → Prop} (dep : Nat → Nat → Prop)
    (hdep : ∀ (X : Nat → Prop), (∀ i k, X i → preds ops i k → X k) → ∀ i j, dep i j → (∀ k, preds ops j k → X k) → X i) :
    ∀ (fuel : Nat) (l : List (Nat × Stp)) (listed : Array Bool) {S S' : SF} {w : World} {μ : Mu} {a : Act}, l.length = fuel → listed.size = ops.size →
    (∀ i, i < ops.size → (listed.getD i true = false ↔ i ∈ l.map (·.1))) → (l.map (·.1)).Nodup →
    (∀ i k, i < ops.size → listed.getD i false = true → preds ops i k → listed.getD k false = true) →
    LinR ops (fun k => listed.getD k false = true) l →
    l.Pairwise (fun x y => dep x.1 y.1 ∨ (x.2.o.apart ops y.2.o = true ∧ compat x.2.cls y.2.cls = true)) →
    Run P G N ops l S S' → Rep G E N w μ S a → (∀ w' μ' a', Rep G E N w' μ' S' a' → Q .normal a' w') → wpAnyIn (wr ro) 0 P .any ops Q fuel listed a w := by
  intro fuel
  have noready : ∀ (l : List (Nat × Stp)) (listed : Array Bool), (∀ i, i < ops.size → (listed.getD i true = false ↔ i ∈ l.map (·.1))) → (∀ x ∈ l, x.1 < ops.size) → LinR ops (fun k => listed.getD k false = true) l → Region.ready .any ops listed = [] → l = [] := by
    intro l listed h1 hlt h2 h3
    cases l with
    | nil => rfl
    | cons x r =>
      obtain ⟨i, s⟩ := x
      have hi : i < ops.size := hlt (i, s) List.mem_cons_self
      have : i ∈ Region.ready .any ops listed := by
        rw [mem_ready]
        refine ⟨(h1 i hi).2 (by simp), ops[i], by simp [hi], fun e he hb => h2.1 e.on ⟨ops[i], by simp [hi], e, he, hb, rfl⟩⟩
      rw [h3] at this
      cases this
  have inb : ∀ (l : List (Nat × Stp)) {S S' : SF}, Run P G N ops l S S' → ∀ x ∈ l, x.1 < ops.size := by
    intro l
    induction l with
    | nil => intro S S' _ x hx; cases hx
    | cons y r ih =>
      obtain ⟨j, s⟩ := y
      intro S S' h x hx
      simp only [Run] at h
      cases hx with
      | head => exact (Array.getElem?_eq_some_iff.1 h.1).1
      | tail _ hx => exact ih h.2.2 x hx
  induction fuel with
  | zero =>
    intro l listed S S' w μ a hlen hsz h1 hnd hcl hlin hpw hrun R hQ
    have : l = [] := List.eq_nil_of_length_eq_zero hlen
    subst this
    simp only [Run] at hrun
    subst hrun
    refine ⟨?_, hQ _ _ _ R⟩
    apply List.eq_nil_iff_forall_not_mem.2
    intro i hi
    rw [mem_ready] at hi
    obtain ⟨h0, o, ho, _⟩ := hi
    have hlt := (Array.getElem?_eq_some_iff.1 ho).1
    have := (h1 i hlt).1 h0
    simp at this
  | succ fuel ih =>
    intro l listed S S' w μ a hlen hsz h1 hnd hcl hlin hpw hrun R hQ
    refine ⟨fun hr => ?_, fun i hi => ?_⟩
    · have := noready l listed h1 (inb l hrun) hlin hr
      subst this
      cases hlen
    · have hr := hi
      rw [mem_ready] at hi
      obtain ⟨h0, o, ho, hall⟩ := hi
      have hlt := (Array.getElem?_eq_some_iff.1 ho).1
      obtain ⟨p, t, q, rfl⟩ := mem_split ((h1 i hlt).1 h0)
      have hfalse : ∀ j, j < ops.size → listed.getD j true = false → listed.getD j false = true → False := by
        intro j hj e1 e2
        have hjl : j < listed.size := by omega
        rw [Array.getD_eq_getD_getElem?, Array.getElem?_eq_getElem hjl] at e1 e2
        simp at e1 e2
        rw [e1] at e2
        cases e2
      have hinb := inb _ hrun
      have hX : ∀ k, preds ops i k → listed.getD k false = true := fun k ⟨o', ho', e, he, hb, hk⟩ => by
        rw [ho] at ho'
        injection ho' with ho'
        subst ho'
        exact hk ▸ hall e he hb
      have hb : ∀ x ∈ p, x.2.o.apart ops t.o = true ∧ compat x.2.cls t.cls = true := by
        intro x hx
        have := (List.pairwise_append.1 hpw).2.2 x hx (i, t) List.mem_cons_self
        refine this.resolve_left fun hd => ?_
        have hxl := hdep (fun k => listed.getD k false = true) (fun i k hi hk => hcl i k (by
          obtain ⟨o', ho', _⟩ := hk
          exact (Array.getElem?_eq_some_iff.1 ho').1) hi hk) x.1 i hd hX
        have hx1 : x.1 < ops.size := hinb x (List.mem_append_left _ hx)
        exact hfalse x.1 hx1 ((h1 x.1 hx1).2 (List.mem_map_of_mem (List.mem_append_left _ hx))) hxl
      have hbub := Run.bubble p hrun hb
      simp only [Run] at hbub
      obtain ⟨r1, r2, r3⟩ := hbub
      have hni : i ∉ (p ++ q).map (·.1) := by
        intro hm
        simp only [List.map_append, List.map_cons] at hnd
        have hperm : (p.map (·.1) ++ i :: q.map (·.1)).Perm (i :: (p.map (·.1) ++ q.map (·.1))) := List.perm_middle
        have := (hperm.nodup_iff).1 hnd
        rw [List.nodup_cons] at this
        exact this.1 (by simpa using hm)
      refine step_real R r1 r2 fun w' μ' a' R' => ih (p ++ q) (listed.setIfInBounds i true) (by simp at hlen ⊢; omega) (by simpa using hsz) (fun j hj => ?_) ?_ ?_ ?_ ?_ r3 R' hQ
      · by_cases e : i = j
        · subst e
          have hlt' : i < listed.size := by omega
          have e1 : (listed.setIfInBounds i true).getD i true = true := by simp [hlt']
          rw [e1]
          exact ⟨fun h => (by cases h), fun h => absurd h hni⟩
        · rw [getD_set_ne true e, h1 j hj]
          simp only [List.map_append, List.map_cons, List.mem_append, List.mem_cons]
          constructor
          · rintro (h | h | h)
            · exact .inl h
            · exact absurd h.symm e
            · exact .inr h
          · rintro (h | h)
            · exact .inl h
            · exact .inr (.inr h)
      · simp only [List.map_append, List.map_cons] at hnd ⊢
        have hperm : (p.map (·.1) ++ i :: q.map (·.1)).Perm (i :: (p.map (·.1) ++ q.map (·.1))) := List.perm_middle
        exact (List.nodup_cons.1 ((hperm.nodup_iff).1 hnd)).2
      · intro j k hj hl hk
        by_cases e : i = j
        · subst e; exact getD_set_true (hX k hk)
        · rw [getD_set_ne false e] at hl
          exact getD_set_true (hcl j k hj hl hk)
      · refine LinR.mono (fun k hk => ?_) (LinR.remove hlin)
        rcases hk with h | rfl
        · exact getD_set_true h
        · have hlt' : k < listed.size := by omega
          simp [hlt']
      · have := List.pairwise_append.1 hpw
        exact List.pairwise_append.2 ⟨this.1, (List.pairwise_cons.1 this.2.1).2, fun x hx y hy => this.2.2 x hx y (List.mem_cons_of_mem _ hy)⟩
end Go.Ab
/- The framework of abstract states, part 4: what each operation does. -/
set_option linter.unusedVariables false
set_option linter.unusedSimpArgs false
namespace Go.Ab

structure Ty where
  d : TypeDesc
  size : Nat
  bytes : Nat
  zero : Value
abbrev TT := Nat → Option Ty
def TTok (P : Program) (Θ : TT) : Prop := ∀ t y, Θ t = some y → ∃ i, P.underlying t = some y.d ∧ P.info? t = some i ∧ i.size = y.size ∧ i.bytes = y.bytes ∧ i.zero = some y.zero
def Ty.agg (y : Ty) : Bool := match y.d with | .struct _ | .array _ _ => true | _ => false

section
variable {P : Program} {Θ : TT}
theorem r_under (hΘ : TTok P Θ) {t : TypeId} {y : Ty} (h : Θ t = some y) (w : World) : (underlying t).run P w = .ok y.d w := by
  obtain ⟨i, h1, _⟩ := hΘ t y h
  exact run_underlying h1 w
theorem r_info (hΘ : TTok P Θ) {t : TypeId} {y : Ty} (h : Θ t = some y) (w : World) : ∃ i, (typeInfo t).run P w = .ok i w ∧ i.size = y.size ∧ i.bytes = y.bytes ∧ i.zero = some y.zero ∧ P.info? t = some i := by
  obtain ⟨i, _, h2, h3, h4, h5⟩ := hΘ t y h
  exact ⟨i, by simp [typeInfo, h2], h3, h4, h5, h2⟩
theorem r_size (hΘ : TTok P Θ) {t : TypeId} {y : Ty} (h : Θ t = some y) (w : World) : (sizeOf t).run P w = .ok y.size w := by
  obtain ⟨i, _, h2, h3, h4, h5⟩ := hΘ t y h
  simp [sizeOf, typeInfo, h2, h3]
theorem r_zero (hΘ : TTok P Θ) {t : TypeId} {y : Ty} (h : Θ t = some y) (w : World) : (zeroValue t).run P w = .ok y.zero w := by
  obtain ⟨i, _, h2, h3, h4, h5⟩ := hΘ t y h
  simp [zeroValue, typeInfo, h2, h5]
theorem r_isAgg (hΘ : TTok P Θ) {t : TypeId} {y : Ty} (h : Θ t = some y) (w : World) : (isAgg t).run P w = .ok y.agg w := by
  simp only [isAgg, Sem.run_bind, r_under hΘ h, Result.andThen_ok, Ty.agg]
  cases y.d <;> rfl
end

theorem ind_cast {α : Type} {a b : α} (h : a = b) (p : α → Prop) (hp : p a) : p b := h ▸ hp

/-- The cells of a value that is stored. -/
def cellsOf : AV → Option (List AV)
  | .agg cs => some cs
  | .tup _ => none
  | .dead => none
  | v => some [v]
theorem cellsOf_spec {w : World} {O : Nat → Prop} {a : AV} {μ : Mu} {v : Value} {cs : List AV} (hc : cellsOf a = some cs) (h : Cv w O a μ v) : CvL w O cs μ v.cells.toList ∧ allOne cs := by
  cases a with
  | agg ds =>
    simp only [cellsOf, Option.some.injEq] at hc
    subst hc
    simp only [Cv] at h
    obtain ⟨vs, rfl, h2, h3⟩ := h
    exact ⟨h2, h3⟩
  | tup => cases hc
  | dead => cases hc
  | _ =>
    simp only [cellsOf, Option.some.injEq] at hc
    subst hc
    refine ⟨?_, fun c hc => by simp at hc; subst hc; rfl⟩
    rw [oneCell_cells (h.oneCell rfl)]
    simp only [CvL]
    exact ⟨v, [], rfl, h, rfl⟩

section ops
variable {P : Program} {G : GlP} {Θ : TT} {o : Oper} {V : Operand → AV}

theorem tri_move (x : Operand) (ho : o.op = .move x ∨ o.op = .assign x) : Tri P G o V [] (V x) [] :=
  tri_pure fun E w μ Lf ρ C hf hv => ⟨ρ x, by rcases ho with ho | ho <;> (simp only [execOp, ho]; rfl), hv x (by rcases ho with ho | ho <;> simp [ho, Op.operands])⟩

theorem tri_pick (c a b : Operand) (t : Bool) (ho : o.op = .pick c a b) (hc : V c = .bool t) : Tri P G o V [] (if t then V a else V b) [] :=
  tri_pure fun E w μ Lf ρ C hf hv => by
    have h := hv c (by simp [ho, Op.operands])
    rw [hc] at h
    simp only [Cv] at h
    refine ⟨if t then ρ a else ρ b, ?_, ?_⟩
    · simp only [execOp, ho, h]
      cases t <;> rfl
    · cases t
      · exact hv b (by simp [ho, Op.operands])
      · exact hv a (by simp [ho, Op.operands])

/-- A new block whose cells are known, under a label of its own. -/
theorem give_new {E : Env} {w : World} {μ : Mu} {Lf : Lbl → Option ABox} (C : Core G E w μ Lf) (l : Lbl) (hl : Lf l = none) (e : TypeId) (cs : List AV) (vs : Array Value)
    (hv : CvL w (E.O μ) cs μ vs.toList) (h1 : allOne cs) :
    ∃ μ', Core G E (w.alloc (.cells vs e)) μ' (ovr Lf [(l, .cells e cs)]) ∧ Later w (E.O μ) (w.alloc (.cells vs e)) (E.O μ') ∧ Keeps μ μ' ∧
      Cv (w.alloc (.cells vs e)) (E.O μ') (.ref l 0) μ' (.pointer (some ⟨w.heap.size, 0, none⟩)) := by
  have := C.newBox (w' := w.alloc (.cells vs e)) l hl (.pointer (some ⟨w.heap.size, 0, none⟩)) (some w.heap.size) (.cells e cs) (by rw [heap_alloc_size]; omega) rfl rfl rfl
    (fun b hb => heap_alloc w _ b hb) (fun b hb => by injection hb with hb; subst hb; rw [heap_alloc_size]; omega)
    (fun O' μ' hla hk => ⟨w.heap.size, vs, rfl, rfl, heap_alloc_self w _, hv.mono hla cs hk, h1⟩)
  exact ⟨_, this.1, this.2.1, this.2.2, by simp only [Cv]; exact ⟨w.heap.size, _, updM_same _ _ _, rfl⟩⟩

theorem fresh_one {Lf : Lbl → Option ABox} {l : Lbl} {x : ABox} (hg : ∀ k b, getL [(l, x)] k = some b → (getL ([] : BL) k).isSome = true ∨ Lf k = none) : Lf l = none := by
  rcases hg l x (by simp [getL, lbeq_iff.2 rfl]) with h | h
  · simp [getL] at h
  · exact h

theorem tri_box (e : TypeId) (x : Operand) (ho : o.op = .box e x) (l : Lbl) (cs : List AV) (hc : cellsOf (V x) = some cs) : Tri P G o V [] (.ref l 0) [(l, .cells e cs)] := by
  intro E w μ Lf ρ C hf hg hv _
  have h := cellsOf_spec hc (hv x (by simp [ho, Op.operands]))
  obtain ⟨μ', k1, k2, k3, k4⟩ := give_new C l (fresh_one hg) e cs (ρ x).cells h.1 h.2
  have hr : (execOp ρ o).run P w = .ok (.value (.pointer (some ⟨w.heap.size, 0, none⟩))) (w.alloc (.cells (ρ x).cells e)) := by
    simp only [execOp, ho]
    rfl
  unfold OpGives
  rw [hr]
  exact ⟨μ', k1, k2, k3, k4⟩

def zcells (y : Ty) : List AV := y.zero.cells.toList.map ofValue
def allOneB (cs : List AV) : Bool := cs.all AV.one
theorem allOneB_iff {cs : List AV} (h : allOneB cs = true) : allOne cs := fun c hc => List.all_eq_true.1 h c hc
theorem zcells_spec (y : Ty) (w : World) (O : Nat → Prop) (μ : Mu) : CvL w O (zcells y) μ y.zero.cells.toList := by
  refine CvL.of_get (by simp [zcells]) fun i a x h1 h2 => ?_
  simp only [zcells, List.getElem?_map, Option.map_eq_some_iff] at h1
  obtain ⟨z, hz, rfl⟩ := h1
  rw [hz] at h2
  injection h2 with h2
  subst h2
  exact Cv.ofValue _ _ _ _

theorem tri_alloc (hΘ : TTok P Θ) (e : TypeId) (y : Ty) (ho : o.op = .alloc e) (hy : Θ e = some y) (h1 : allOneB (zcells y) = true) (l : Lbl) : Tri P G o V [] (.ref l 0) [(l, .cells e (zcells y))] := by
  intro E w μ Lf ρ C hf hg hv _
  obtain ⟨μ', k1, k2, k3, k4⟩ := give_new C l (fresh_one hg) e (zcells y) y.zero.cells (zcells_spec y w _ μ) (allOneB_iff h1)
  have hr : (execOp ρ o).run P w = .ok (.value (.pointer (some ⟨w.heap.size, 0, none⟩))) (w.alloc (.cells y.zero.cells e)) := by
    simp only [execOp, ho, Instr.alloc, Sem.run_bind, r_zero hΘ hy, Result.andThen_ok]
    rfl
  unfold OpGives
  rw [hr]
  exact ⟨μ', k1, k2, k3, k4⟩

/-! Loads. -/
def takeV (y : Ty) (cs : List AV) : Option AV := cond y.agg (cond (Nat.ble y.size cs.length) (some (.agg (cs.take y.size))) none) cs.head?

theorem load_run (hΘ : TTok P Θ) {t : TypeId} {y : Ty} (hy : Θ t = some y) {w : World} {O : Nat → Prop} {μ : Mu} {b off : Nat} {cs : List AV} {vs : List Value}
    (hc : CvL w O cs μ vs) (h1 : allOne cs) (hcell : ∀ j v, vs[j]? = some v → w.cell? ⟨b, off + j, none⟩ = some v) {r : AV} (hr : takeV y cs = some r) :
    ∃ v, (loadVar t ⟨b, off, none⟩).run P w = .ok v w ∧ Cv w O r μ v := by
  unfold takeV at hr
  have hadd : ∀ j, (⟨b, off, none⟩ : Addr).add j = ⟨b, off + j, none⟩ := fun j => by unfold Addr.add; split <;> simp_all
  cases ha : y.agg with
  | true =>
    rw [ha] at hr
    cases hs : Nat.ble y.size cs.length with
    | false => rw [hs] at hr; cases hr
    | true =>
      rw [hs] at hr
      simp only [cond_true, Option.some.injEq] at hr
      subst hr
      have hle := Nat.le_of_ble_eq_true hs
      have hlen := hc.length
      have hl := run_loadCells_list (P := P) w ⟨b, off, none⟩ (vs.take y.size) (fun j v hj => by
        rw [hadd]
        rw [List.getElem?_take] at hj
        split at hj
        · exact hcell j v hj
        · cases hj)
      rw [show (vs.take y.size).length = y.size from by rw [List.length_take]; omega] at hl
      refine ⟨.agg (vs.take y.size).toArray, ?_, ?_⟩
      · simp only [loadVar, Sem.run_bind, r_isAgg hΘ hy, r_size hΘ hy, ha, Result.andThen_ok, if_true, hl]
        rfl
      · simp only [Cv]
        exact ⟨_, rfl, by simpa using hc.take y.size, h1.take _⟩
  | false =>
    rw [ha] at hr
    simp only [cond_false] at hr
    cases cs with
    | nil => cases hr
    | cons a as1 =>
      simp only [List.head?_cons, Option.some.injEq] at hr
      subst hr
      simp only [CvL] at hc
      obtain ⟨x, xs, rfl, h2, h3⟩ := hc
      refine ⟨x, ?_, h2⟩
      have := hcell 0 x rfl
      simp only [Nat.add_zero] at this
      simp only [loadVar, Sem.run_bind, r_isAgg hΘ hy, ha, Result.andThen_ok, Bool.false_eq_true, if_false, run_load, this]

theorem tri_load_ref (hΘ : TTok P Θ) (t : TypeId) (y : Ty) (x : Operand) (ho : o.op = .load t x) (hy : Θ t = some y) (l : Lbl) (off : Nat) (hx : V x = .ref l off) (e : TypeId) (cs : List AV) (r : AV)
    (hr : takeV y (cs.drop off) = some r) : Tri P G o V [(l, .cells e cs)] r [] :=
  tri_pure fun E w μ Lf ρ C hf hv => by
    have h := hv x (by simp [ho, Op.operands])
    rw [hx] at h
    simp only [Cv] at h
    obtain ⟨b, ob, h1, h2⟩ := h
    obtain ⟨v, ob', h3, b', vs, rfl, rfl, h4, h5, h6⟩ := C.box l (.cells e cs) (hf l _ (by simp [getL, lbeq_iff.2 rfl]))
    rw [h1] at h3
    injection h3 with h3
    injection h3 with h3 h3'
    injection h3 with h3
    injection h3 with h3
    injection h3 with h3
    subst h3
    obtain ⟨v, hv1, hv2⟩ := load_run hΘ hy (b := b) (off := off) (h5.drop off) (h6.drop off) (fun j u hj => by
      simp only [World.cell?, h4]
      simpa using hj) hr
    refine ⟨v, ?_, hv2⟩
    simp only [execOp, ho, h2, Instr.loadAt, Instr.sureAddr, Sem.run_bind, hv1]
    simp [hv1]

theorem tri_load_pp (hΘ : TTok P Θ) (t : TypeId) (y : Ty) (x : Operand) (ho : o.op = .load t x) (hy : Θ t = some y) (cs : List AV) (hx : V x = .pp cs) (r : AV)
    (hr : takeV y cs = some r) : Tri P G o V [] r [] :=
  tri_pure fun E w μ Lf ρ C hf hv => by
    have h := hv x (by simp [ho, Op.operands])
    rw [hx] at h
    simp only [Cv] at h
    obtain ⟨b, off, h2, _, _, hc⟩ := h
    have hex : ∀ (as1 : List AV) (k : Nat), CvC w (E.O μ) as1 b k → ∃ vs, CvL w (E.O μ) as1 μ vs ∧ ∀ j v, vs[j]? = some v → w.cell? ⟨b, k + j, none⟩ = some v := by
      intro as1
      induction as1 with
      | nil => exact fun k _ => ⟨[], by simp [CvL], fun j v h => by simp at h⟩
      | cons a as1 ih =>
        intro k hk
        simp only [CvC] at hk
        obtain ⟨⟨x, hx1, hx2, _⟩, hk2⟩ := hk
        obtain ⟨vs, g1, g2⟩ := ih (k + 1) hk2
        refine ⟨x :: vs, ?_, fun j v hj => ?_⟩
        · simp only [CvL]
          exact ⟨x, vs, rfl, hx2.mono (Later.refl _ _) a (fun _ _ _ h => by cases h), g1⟩
        · cases j with
          | zero => simp at hj; subst hj; simpa using hx1
          | succ j =>
            have := g2 j v (by simpa using hj)
            rwa [show k + 1 + j = k + (j + 1) from by omega] at this
    obtain ⟨vs, g1, g2⟩ := hex cs off hc
    obtain ⟨v, hv1, hv2⟩ := load_run hΘ hy (b := b) (off := off) g1 hc.allOne g2 hr
    refine ⟨v, ?_, hv2⟩
    simp only [execOp, ho, h2, Instr.loadAt, Instr.sureAddr, Sem.run_bind, hv1]
    simp [hv1]
end ops
end Go.Ab
/- The framework of abstract states, part 5: stores, addresses, values built. -/
set_option linter.unusedVariables false
set_option linter.unusedSimpArgs false
namespace Go.Ab

theorem setRow_heap_same (w : World) (g : Nat) (cur new : Array Value) (t : TypeId) (fr : Nat × Nat) (h : w.heap[g]? = some (.cells cur t fr)) : (w.setRow g new).heap[g]? = some (.cells new t fr) := setRow_heap w g cur new t fr h
theorem setRow_heap_other (w : World) (g : Nat) (new : Array Value) (b : Nat) (h : g ≠ b) : (w.setRow g new).heap[b]? = w.heap[b]? := by
  unfold World.setRow
  simp [Array.getElem?_modify, h]
theorem setRow_size (w : World) (g : Nat) (new : Array Value) : (w.setRow g new).heap.size = w.heap.size := by
  unfold World.setRow
  simp

def spliceL (cs : List AV) (off : Nat) (vs : List AV) : List AV := cs.take off ++ vs ++ cs.drop (off + vs.length)

theorem storeVar_run {P : Program} {Θ : TT} (hΘ : TTok P Θ) {t : TypeId} {y : Ty} (hy : Θ t = some y) {w : World} {b off : Nat} {cur : Array Value} {e : TypeId} (hb : w.heap[b]? = some (.cells cur e (0, 0)))
    {v : Value} (hs : v.cells.size = y.size) (hfit : off + y.size ≤ cur.size) (h1 : ∀ x ∈ v.cells.toList, x.oneCell' = true) :
    (storeVar t ⟨b, off, none⟩ v).run P w = .ok () (w.setRow b (cur.toList.take off ++ v.cells.toList ++ cur.toList.drop (off + v.cells.toList.length)).toArray) := by
  have hl : v.cells.toList.length = y.size := by simpa using hs
  have := run_storeCells_at P b off e v.cells.toList 0 cur w hb (by rw [hl]; simpa using hfit) h1
  simp only [storeVar, Sem.run_bind, r_size hΘ hy, Result.andThen_ok, hs]
  simpa using this

theorem CvL.oneCell {w : World} {O : Nat → Prop} {cs : List AV} {μ : Mu} {vs : List Value} (h : CvL w O cs μ vs) (h1 : allOne cs) : ∀ x ∈ vs, x.oneCell' = true := by
  intro x hx
  obtain ⟨i, hi⟩ := List.getElem?_of_mem hx
  have hlt : i < vs.length := (List.getElem?_eq_some_iff.1 hi).1
  have hl := h.length
  have hc : cs[i]? = some (cs[i]'(by omega)) := List.getElem?_eq_getElem _
  obtain ⟨x', h2, h3⟩ := h.get i _ hc
  rw [hi] at h2
  injection h2 with h2
  subst h2
  exact h3.oneCell (h1 _ (List.mem_of_getElem? hc))

section ops
variable {P : Program} {G : GlP} {Θ : TT} {o : Oper} {V : Operand → AV}

theorem box_cells {E : Env} {w : World} {μ : Mu} {Lf : Lbl → Option ABox} (C : Core G E w μ Lf) {l : Lbl} {e : TypeId} {cs : List AV} (hl : Lf l = some (.cells e cs)) {b : Nat} {ob : Option Nat}
    (h1 : μ l = some (.pointer (some ⟨b, 0, none⟩), ob)) : ob = some b ∧ ∃ vs, w.heap[b]? = some (.cells vs e (0, 0)) ∧ CvL w (E.O μ) cs μ vs.toList ∧ allOne cs := by
  obtain ⟨v, ob', h3, b', vs, rfl, rfl, h4, h5, h6⟩ := C.box l _ hl
  rw [h1] at h3
  injection h3 with h3
  injection h3 with h3 h3'
  injection h3 with h3
  injection h3 with h3
  injection h3 with h3
  subst h3
  exact ⟨h3', vs, h4, h5, h6⟩

theorem getL_one {l : Lbl} {x : ABox} : getL [(l, x)] l = some x := by simp [getL, lbeq_iff.2 rfl]

theorem tri_store (hΘ : TTok P Θ) (t : TypeId) (y : Ty) (x v : Operand) (ho : o.op = .store t x v) (hy : Θ t = some y) (l : Lbl) (off : Nat) (hx : V x = .ref l off) (e : TypeId) (cs vs : List AV)
    (hv : cellsOf (V v) = some vs) (hlen : vs.length = y.size) (hfit : off + y.size ≤ cs.length) : Tri P G o V [(l, .cells e cs)] (.tup []) [(l, .cells e (spliceL cs off vs))] := by
  intro E w μ Lf ρ C hf hg hV _
  have hxv := hV x (by simp [ho, Op.operands])
  rw [hx] at hxv
  simp only [Cv] at hxv
  obtain ⟨b, ob, h1, h2⟩ := hxv
  obtain ⟨rfl, cur, h4, h5, h6⟩ := box_cells C (hf l _ getL_one) h1
  obtain ⟨c1, c2⟩ := cellsOf_spec hv (hV v (by simp [ho, Op.operands]))
  have hcl := h5.length
  have hvl := c1.length
  have hrun := storeVar_run hΘ hy h4 (v := ρ v) (off := off) (by simp at hvl; omega) (by simp at hcl; omega) (c1.oneCell c2)
  have hr : (execOp ρ o).run P w = .ok .skip (w.setRow b (cur.toList.take off ++ (ρ v).cells.toList ++ cur.toList.drop (off + (ρ v).cells.toList.length)).toArray) := by
    simp only [execOp, ho, h2, Instr.storeAt, Instr.sureAddr, Sem.run_bind]
    simp [hrun]
  unfold OpGives
  rw [hr]
  have := C.setBox (w' := w.setRow b (cur.toList.take off ++ (ρ v).cells.toList ++ cur.toList.drop (off + (ρ v).cells.toList.length)).toArray) l _ _ h1 (.pointer (some ⟨b, 0, none⟩)) (some b) (kp.refl _) (.cells e (spliceL cs off vs))
    (by rw [setRow_size]; exact Nat.le_refl _) rfl rfl rfl (fun k hk hne => setRow_heap_other w b _ k (fun e => hne (by rw [e]))) (fun k hk => .inl hk)
    (fun O' μ' hla hk => ⟨b, _, rfl, rfl, setRow_heap_same w b cur _ e (0, 0) h4, by
      simp only [spliceL]
      rw [show vs.length = (ρ v).cells.toList.length from by omega]
      exact ((((h5.mono hla cs hk).take off).append (c1.mono hla vs hk)).append ((h5.mono hla cs hk).drop _)), ((h6.take _).append c2).append (h6.drop _)⟩)
  exact ⟨_, this.1, this.2.1, this.2.2, by simp only [Cv]; exact ⟨#[], rfl, by simp [CvL]⟩⟩

theorem add_none (b off n : Nat) : (⟨b, off, none⟩ : Addr).add n = ⟨b, off + n, none⟩ := by unfold Addr.add; split <;> simp_all

/-- A field's place: type of the struct, number of the field; the offset. -/
def fieldOf (Θ : TT) (t : TypeId) (f : Nat) : Option (TypeId × Nat × Ty) :=
  match Θ t with
  | some y => match y.d with
    | .struct fs => match fs.toList[f]? with
      | some fd => match Θ fd.type with
        | some z => cond (Nat.ble 1 z.size) (some (fd.type, fd.offset, z)) none
        | none => none
      | none => none
    | _ => none
  | none => none
theorem fieldOf_spec {t : TypeId} {f : Nat} {u : TypeId} {off : Nat} {z : Ty} (h : fieldOf Θ t f = some (u, off, z)) :
    ∃ y fs fd, Θ t = some y ∧ y.d = .struct fs ∧ fs[f]? = some fd ∧ fd.type = u ∧ fd.offset = off ∧ Θ u = some z ∧ 1 ≤ z.size := by
  unfold fieldOf at h
  split at h
  · rename_i y hy
    split at h
    · rename_i fs hd
      split at h
      · rename_i fd hf
        split at h
        · rename_i z' hz
          cases hb : Nat.ble 1 z'.size with
          | false => rw [hb] at h; cases h
          | true =>
            rw [hb] at h
            simp only [cond_true, Option.some.injEq, Prod.mk.injEq] at h
            obtain ⟨rfl, rfl, rfl⟩ := h
            exact ⟨y, fs, fd, hy, hd, by simpa using hf, rfl, rfl, hz, Nat.le_of_ble_eq_true hb⟩
        · cases h
      · cases h
    · cases h
  · cases h

theorem fieldAt_run (hΘ : TTok P Θ) {t : TypeId} {f : Nat} {u : TypeId} {off : Nat} {z : Ty} (h : fieldOf Θ t f = some (u, off, z)) (w : World) (b o : Nat) :
    (Instr.fieldAt t (.pointer (some ⟨b, o, none⟩)) f).run P w = .ok (.pointer (some ⟨b, o + off, none⟩)) w := by
  obtain ⟨y, fs, fd, h1, h2, h3, rfl, rfl, h4, h5⟩ := fieldOf_spec h
  have hu := r_under hΘ h1 w
  rw [h2] at hu
  have hs := r_size hΘ h4 w
  have hne : ¬ z.size = 0 := by omega
  simp [Instr.fieldAt, Sem.run_bind, hu, h3, Instr.sureAddr, fieldPlace, hs, hne, add_none]

theorem tri_fieldAddr_ref (hΘ : TTok P Θ) (t : TypeId) (x : Operand) (f : Nat) (ho : o.op = .fieldAddr t x f) {u : TypeId} {off : Nat} {z : Ty} (h : fieldOf Θ t f = some (u, off, z))
    (l : Lbl) (k : Nat) (hx : V x = .ref l k) : Tri P G o V [] (.ref l (k + off)) [] :=
  tri_pure fun E w μ Lf ρ C hf hv => by
    have hxv := hv x (by simp [ho, Op.operands])
    rw [hx] at hxv
    simp only [Cv] at hxv
    obtain ⟨b, ob, h1, h2⟩ := hxv
    refine ⟨.pointer (some ⟨b, k + off, none⟩), ?_, by simp only [Cv]; exact ⟨b, ob, h1, rfl⟩⟩
    simp only [execOp, ho, h2, Sem.run_bind, fieldAt_run hΘ h]
    rfl

theorem tri_fieldAddr_pp (hΘ : TTok P Θ) (t : TypeId) (x : Operand) (f : Nat) (ho : o.op = .fieldAddr t x f) {u : TypeId} {off : Nat} {z : Ty} (h : fieldOf Θ t f = some (u, off, z))
    (cs : List AV) (hx : V x = .pp cs) : Tri P G o V [] (.pp (cs.drop off)) [] :=
  tri_pure fun E w μ Lf ρ C hf hv => by
    have hxv := hv x (by simp [ho, Op.operands])
    rw [hx] at hxv
    simp only [Cv] at hxv
    obtain ⟨b, k, h2, h3, h4, h5⟩ := hxv
    refine ⟨.pointer (some ⟨b, k + off, none⟩), ?_, by simp only [Cv]; exact ⟨b, _, rfl, h3, h4, h5.drop off⟩⟩
    simp only [execOp, ho, h2, Sem.run_bind, fieldAt_run hΘ h]
    rfl

theorem tri_fieldAddr_rp (hΘ : TTok P Θ) (t : TypeId) (x : Operand) (f : Nat) (ho : o.op = .fieldAddr t x f) {u : TypeId} {off : Nat} {z : Ty} (h : fieldOf Θ t f = some (u, off, z))
    (l : Lbl) (n k : Nat) (hx : V x = .rp l n k) (e : TypeId) (sz : Nat) (xs : List (List AV)) (hn : xs.length = n) : Tri P G o V [(l, .row e sz xs)] (.rp l n (k + off)) [] :=
  tri_pure fun E w μ Lf ρ C hf hv => by
    have hxv := hv x (by simp [ho, Op.operands])
    rw [hx] at hxv
    simp only [Cv] at hxv
    obtain ⟨A, m, cap, ob, h1, h2, h3, h4⟩ := hxv
    obtain ⟨v, ob', h5, A', cap', vs, rfl, _⟩ := C.box l (.row e sz xs) (hf l _ getL_one)
    rw [h1] at h5
    injection h5 with h5
    injection h5 with h5 _
    injection h5 with e1 e2 e3
    obtain ⟨b, rfl, hb⟩ := h3 (by omega)
    refine ⟨.pointer (some ⟨b, k + off, none⟩), ?_, by simp only [Cv]; exact ⟨_, m, cap, ob, h1, h2, fun _ => ⟨b, rfl, rfl⟩, _, rfl⟩⟩
    simp only [execOp, ho, hb, Sem.run_bind, fieldAt_run hΘ h]
    rfl

/-! An index into a slice. -/
theorem tri_indexAddr_lst (hΘ : TTok P Θ) (t : TypeId) (x ix : Operand) (ho : o.op = .indexAddr t x ix) (y z : Ty) (e : TypeId) (hy : Θ t = some y) (hd : y.d = .slice e) (hz : Θ e = some z)
    (sz : Nat) (hsz : z.size = sz) (xs : List (List AV)) (hx : V x = .lst sz xs) (k : IntKind) (i : Int) (hi : V ix = .int k i) (h0 : 0 ≤ i) (c : List AV) (hc : xs[i.toNat]? = some c) :
    Tri P G o V [] (.pp c) [] :=
  tri_pure fun E w μ Lf ρ C hf hv => by
    have hxv := hv x (by simp [ho, Op.operands])
    have hiv := hv ix (by simp [ho, Op.operands])
    rw [hx] at hxv
    rw [hi] at hiv
    simp only [Cv] at hxv hiv
    obtain ⟨A, cap, h1, h2, h3, h4⟩ := hxv
    have hlt : i.toNat < xs.length := (List.getElem?_eq_some_iff.1 hc).1
    rcases h4 with h4 | ⟨b, off, rfl, h5, h6, h7⟩
    · subst h4; simp at hlt
    have hu := r_under hΘ hy w
    rw [hd] at hu
    have hs := r_size hΘ hz w
    refine ⟨.pointer (some ⟨b, off + i.toNat * sz, none⟩), ?_, ?_⟩
    · have hin : 0 ≤ i ∧ i < (xs.length : Int) := ⟨h0, by omega⟩
      simp only [execOp, ho, h1, hiv, Instr.indexAt, Sem.run_bind, asIntOf, hu, Sem.run_pure, Result.andThen_ok]
      simp [hin, hs, hsz, add_none]
    · simp only [Cv]
      exact ⟨b, _, rfl, h5, h6, (h7.get _ c hc).2⟩

theorem tri_indexAddr_own (hΘ : TTok P Θ) (t : TypeId) (x ix : Operand) (ho : o.op = .indexAddr t x ix) (y z : Ty) (e : TypeId) (hy : Θ t = some y) (hd : y.d = .slice e) (hz : Θ e = some z)
    (sz : Nat) (hsz : z.size = sz) (l : Lbl) (n : Nat) (hx : V x = .own l n) (e' : TypeId) (xs : List (List AV)) (hn : xs.length = n) (k : IntKind) (i : Int) (hi : V ix = .int k i) (h0 : 0 ≤ i) (h1 : i < n) :
    Tri P G o V [(l, .row e' sz xs)] (.rp l n (i.toNat * sz)) [] :=
  tri_pure fun E w μ Lf ρ C hf hv => by
    have hxv := hv x (by simp [ho, Op.operands])
    have hiv := hv ix (by simp [ho, Op.operands])
    rw [hx] at hxv
    rw [hi] at hiv
    simp only [Cv] at hxv hiv
    obtain ⟨A, m, cap, ob, h2, h3, h4, A1, c1, h5⟩ := hxv
    obtain ⟨v, ob', h6, A', cap', vs, rfl, h7, h8, h9, h10, h11⟩ := C.box l (.row e' sz xs) (hf l _ getL_one)
    rw [h2] at h6
    injection h6 with h6
    injection h6 with h6 h6'
    injection h6 with e1 e2 e3
    subst e1 e2 e3
    have hv := h4 hn
    rcases h11 with ⟨h11, _⟩ | ⟨b, sp, h12, rfl, h13, h14⟩
    · omega
    have hu := r_under hΘ hy w
    rw [hd] at hu
    have hs := r_size hΘ hz w
    refine ⟨.pointer (some ⟨b, i.toNat * sz, none⟩), ?_, ?_⟩
    · have hin : 0 ≤ i ∧ i < (xs.length : Int) := ⟨h0, by omega⟩
      simp only [execOp, ho, hv, hiv, Instr.indexAt, Sem.run_bind, asIntOf, hu, Sem.run_pure, Result.andThen_ok]
      simp [hin, hs, hsz, add_none]
    · simp only [Cv]
      exact ⟨_, _, _, _, h2, h3, fun _ => ⟨b, rfl, rfl⟩, _, rfl⟩

theorem tri_nilCheck (x : Operand) (ho : o.op = .nilCheck x) (hx : match V x with | .ref _ _ => True | .pp _ => True | .rp _ _ _ => True | .gp _ => True | .fn (.func _) _ _ => True | _ => False) : Tri P G o V [] (V x) [] :=
  tri_pure fun E w μ Lf ρ C hf hv => by
    have hxv := hv x (by simp [ho, Op.operands])
    refine ⟨ρ x, ?_, hxv⟩
    have : (∃ a, ρ x = .pointer (some a)) ∨ ∃ f a b, ρ x = .func (.func f) a b := by
      split at hx
      · rename_i e; rw [e] at hxv; simp only [Cv] at hxv; obtain ⟨b, ob, _, h⟩ := hxv; exact .inl ⟨_, h⟩
      · rename_i e; rw [e] at hxv; simp only [Cv] at hxv; obtain ⟨b, ob, h, _⟩ := hxv; exact .inl ⟨_, h⟩
      · rename_i e; rw [e] at hxv; simp only [Cv] at hxv; obtain ⟨_, _, _, _, _, _, _, a, h⟩ := hxv; exact .inl ⟨_, h⟩
      · rename_i e; rw [e] at hxv; simp only [Cv] at hxv; exact .inl ⟨_, hxv⟩
      · rename_i e; rw [e] at hxv; simp only [Cv] at hxv; obtain ⟨a, b, h, _⟩ := hxv; exact .inr ⟨_, _, _, h⟩
      · exact hx.elim
    rcases this with ⟨a, h⟩ | ⟨f, a, b, h⟩ <;> simp [execOp, ho, h]

theorem tri_makeFunc (fn : Fn) (first captured : Array Operand) (ho : o.op = .makeFunc fn first captured) : Tri P G o V [] (.fn fn (first.toList.map V) (captured.toList.map V)) [] :=
  tri_pure fun E w μ Lf ρ C hf hv => by
    have hm : ∀ (l : List Operand), (∀ x ∈ l, x ∈ o.op.operands) → CvL w (E.O μ) (l.map V) μ (l.map ρ) := by
      intro l
      induction l with
      | nil => intro _; simp [CvL]
      | cons a l ih =>
        intro h
        simp only [List.map_cons, CvL]
        exact ⟨_, _, rfl, hv a (h a List.mem_cons_self), ih fun x hx => h x (List.mem_cons_of_mem _ hx)⟩
    refine ⟨.func fn (first.map ρ) (captured.map ρ), ?_, ?_⟩
    · simp only [execOp, ho, Instr.makeFunc]
      rfl
    · simp only [Cv]
      refine ⟨_, _, rfl, ?_, ?_⟩
      · rw [Array.toList_map]
        exact hm _ fun x hx => by rw [ho]; simp only [Op.operands]; exact Array.mem_append_left _ (by simpa using hx)
      · rw [Array.toList_map]
        exact hm _ fun x hx => by rw [ho]; simp only [Op.operands]; exact Array.mem_append_right _ (by simpa using hx)

theorem tri_extract (x : Operand) (i : Nat) (ho : o.op = .extract x i) (vs : List AV) (hx : V x = .tup vs) (r : AV) (hr : vs[i]? = some r) : Tri P G o V [] r [] :=
  tri_pure fun E w μ Lf ρ C hf hv => by
    have hxv := hv x (by simp [ho, Op.operands])
    rw [hx] at hxv
    simp only [Cv] at hxv
    obtain ⟨xs, h1, h2⟩ := hxv
    obtain ⟨v, h3, h4⟩ := h2.get i r hr
    have h3' : xs[i]? = some v := by simpa using h3
    exact ⟨v, by simp [execOp, ho, h1, Instr.extract, h3'], h4⟩

theorem tri_not (t : TypeId) (x : Operand) (ho : o.op = .unOp .not t x) (b : Bool) (hx : V x = .bool b) : Tri P G o V [] (.bool (!b)) [] :=
  tri_pure fun E w μ Lf ρ C hf hv => by
    have hxv := hv x (by simp [ho, Op.operands])
    rw [hx] at hxv
    simp only [Cv] at hxv
    exact ⟨.bool (!b), by simp [execOp, ho, hxv, Op.unary], by simp [Cv]⟩

def arith (op : BinOp) (k : IntKind) (a b : Int) : Option AV := match op with
  | .add => some (.int k (k.wrap (a + b)))
  | .sub => some (.int k (k.wrap (a - b)))
  | .mul => some (.int k (k.wrap (a * b)))
  | .eql => some (.bool (a == b))
  | .neq => some (.bool (a != b))
  | .lss => some (.bool (decide (a < b)))
  | .leq => some (.bool (decide (a ≤ b)))
  | .gtr => some (.bool (decide (b < a)))
  | .geq => some (.bool (decide (b ≤ a)))
  | _ => none

theorem tri_arith (op : BinOp) (t t' : TypeId) (x y : Operand) (ho : o.op = .binOp op t x y t') (k : IntKind) (a b : Int) (hx : V x = .int k a) (hy : V y = .int k b) (r : AV) (hr : arith op k a b = some r) :
    Tri P G o V [] r [] :=
  tri_pure fun E w μ Lf ρ C hf hv => by
    have hxv := hv x (by simp [ho, Op.operands])
    have hyv := hv y (by simp [ho, Op.operands])
    rw [hx] at hxv
    rw [hy] at hyv
    simp only [Cv] at hxv hyv
    have hg : ∀ p q, (eqGuard op t p q (.int k a) (.int k b)).run P w = .ok () w := fun p q => by
      unfold eqGuard
      cases op <;> simp
    cases op <;> simp only [arith, Option.some.injEq, reduceCtorEq] at hr <;> (
      subst hr
      refine ⟨_, ?_, by simp only [Cv]; rfl⟩
      simp [execOp, ho, hxv, hyv, hg, binOp, Op.intArith, Op.intCmp])
end ops
end Go.Ab
/- The framework of abstract states, part 6: append, structs and slices built, lengths, strings. -/
set_option linter.unusedVariables false
set_option linter.unusedSimpArgs false
namespace Go.Ab

/-- The elements of an abstract slice that is only read. -/
def elems (sz : Nat) : AV → Option (List (List AV))
  | .lst s xs => cond (Nat.beq s sz) (some xs) none
  | .emp => some []
  | _ => none

theorem CvC.values {w : World} {O : Nat → Prop} {μ : Mu} {b : Nat} : ∀ {as1 : List AV} {k : Nat}, CvC w O as1 b k → ∃ vs, CvL w O as1 μ vs ∧ ∀ j v, vs[j]? = some v → w.cell? ⟨b, k + j, none⟩ = some v
  | [], k, _ => ⟨[], by simp [CvL], fun j v h => by simp at h⟩
  | a :: as1, k, hk => by
    simp only [CvC] at hk
    obtain ⟨⟨x, hx1, hx2, _⟩, hk2⟩ := hk
    obtain ⟨vs, g1, g2⟩ := CvC.values (μ := μ) hk2
    refine ⟨x :: vs, ?_, fun j v hj => ?_⟩
    · simp only [CvL]
      exact ⟨x, vs, rfl, hx2.mono (Later.refl _ _) a (fun _ _ _ h => by cases h), g1⟩
    · cases j with
      | zero => simp at hj; subst hj; simpa using hx1
      | succ j =>
        have := g2 j v (by simpa using hj)
        rwa [show k + 1 + j = k + (j + 1) from by omega] at this

theorem CvR.values {w : World} {O : Nat → Prop} {μ : Mu} {sz b : Nat} : ∀ {xs : List (List AV)} {k : Nat}, CvR w O sz xs b k →
    ∃ vs, CvL w O xs.flatten μ vs ∧ allOne xs.flatten ∧ (∀ x ∈ xs, x.length = sz) ∧ vs.length = xs.length * sz ∧ ∀ j v, vs[j]? = some v → w.cell? ⟨b, k + j, none⟩ = some v
  | [], k, _ => ⟨[], by simp [CvL], fun c h => by simp at h, fun x h => by simp at h, by simp, fun j v h => by simp at h⟩
  | x :: xs, k, hk => by
    simp only [CvR] at hk
    obtain ⟨h1, h2, h3⟩ := hk
    obtain ⟨us, g1, g2⟩ := CvC.values (μ := μ) h2
    obtain ⟨vs, k1, k2, k3, k4, k5⟩ := CvR.values (μ := μ) h3
    have hul := g1.length
    refine ⟨us ++ vs, by simpa using g1.append k1, ?_, ?_, ?_, fun j v hj => ?_⟩
    · simpa using h2.allOne.append k2
    · intro y hy
      rcases List.mem_cons.1 hy with rfl | hy
      · exact h1
      · exact k3 y hy
    · simp [k4, hul, h1, Nat.add_mul]; omega
    · by_cases hlt : j < us.length
      · rw [List.getElem?_append_left hlt] at hj
        exact g2 j v hj
      · rw [List.getElem?_append_right (by omega)] at hj
        have := k5 _ v hj
        rwa [show k + sz + (j - us.length) = k + j from by omega] at this

theorem flatten_len {sz : Nat} : ∀ {xs : List (List AV)}, (∀ x ∈ xs, x.length = sz) → xs.flatten.length = xs.length * sz
  | [], _ => by simp
  | x :: xs, h => by
    have h1 := h x List.mem_cons_self
    have h2 := flatten_len fun y hy => h y (List.mem_cons_of_mem _ hy)
    simp only [List.flatten_cons, List.length_append, h1, h2, List.length_cons, Nat.add_mul]
    omega

/-- What an append to a row does, whatever the row is. -/
theorem append_gives {P : Program} {Θ : TT} (hΘ : TTok P Θ) {t e : TypeId} {y z : Ty} (hy : Θ t = some y) (hd : y.d = .slice e) (hz : Θ e = some z) (hzs : z.zero.cells.size = z.size) (hsz : 0 < z.size)
    {w : World} {O : Nat → Prop} {μ : Mu} {A : Option Addr} {n cap : Nat} {vs : List Value} {ob : Option Nat} (hn : n ≤ cap) (hcap : cap ≤ maxLen) (hvl : vs.length = n * z.size)
    (hrow : (cap = 0 ∧ ob = none) ∨ ∃ b sp, ob = some b ∧ A = some ⟨b, 0, none⟩ ∧ w.heap[b]? = some (.cells (vs ++ sp).toArray e (0, 0)) ∧ (vs ++ sp).length = cap * z.size)
    {ys : List (List AV)} {av : AV} (hel : elems z.size av = some ys) {u : Value} (hu : Cv w O av μ u) (h63 : n + ys.length ≤ 4294967296) (hby : z.bytes ≤ 32768) (ty : TypeId) :
    ∃ us A' cap' ob' w', (Builtin.append_ #[t, t] ty #[.slice A n cap, u]).run P w = .ok (.slice A' (n + ys.length) cap') w' ∧ CvL w O ys.flatten μ us ∧ allOne ys.flatten ∧ (∀ y ∈ ys, y.length = z.size) ∧
      n + ys.length ≤ cap' ∧ cap' ≤ maxLen ∧ (ys.length = 0 → Value.slice A' (n + ys.length) cap' = .slice A n cap ∧ ob' = ob ∧ w' = w) ∧
      ((cap' = 0 ∧ ob' = none) ∨ ∃ b sp, ob' = some b ∧ A' = some ⟨b, 0, none⟩ ∧ w'.heap[b]? = some (.cells (vs ++ us ++ sp).toArray e (0, 0)) ∧ (vs ++ us ++ sp).length = cap' * z.size) ∧
      w.heap.size ≤ w'.heap.size ∧ w'.os = w.os ∧ w'.tape = w.tape ∧ w'.output = w.output ∧ (∀ k, k < w.heap.size → ob ≠ some k → w'.heap[k]? = w.heap[k]?) ∧
      (∀ k, ob' = some k → ob = some k ∨ (w.heap.size ≤ k ∧ k < w'.heap.size)) := by
  obtain ⟨i, hu1, hu2, hu3, hu4, hu5⟩ := hΘ e z hz
  obtain ⟨_, hut, _⟩ := hΘ t y hy
  rw [hd] at hut
  have hbytes : (n + ys.length) * z.bytes ≤ 140737488355328 := by
    have := Nat.mul_le_mul h63 hby
    omega
  have hml : n + ys.length ≤ maxLen := by simp only [maxLen]; omega
  -- the source
  have src : ∃ B c, u = .slice B ys.length c ∧ ∃ us, CvL w O ys.flatten μ us ∧ allOne ys.flatten ∧ (∀ y ∈ ys, y.length = z.size) ∧ us.length = ys.length * z.size ∧ (0 < ys.length → ∃ a, B = some a ∧ ∀ j v, us[j]? = some v → w.cell? (a.add j) = some v) := by
    cases av with
    | lst s xs =>
      simp only [elems] at hel
      cases hb : Nat.beq s z.size with
      | false => rw [hb] at hel; cases hel
      | true =>
        rw [hb] at hel
        simp only [cond_true, Option.some.injEq] at hel
        subst hel
        obtain rfl := Nat.eq_of_beq_eq_true hb
        simp only [Cv] at hu
        obtain ⟨B, c, rfl, h2, h3, h4⟩ := hu
        refine ⟨B, c, rfl, ?_⟩
        rcases h4 with rfl | ⟨b, off, rfl, _, _, h5⟩
        · exact ⟨[], by simp [CvL], fun c h => by simp at h, fun y h => by simp at h, by simp, fun h => by simp at h⟩
        · obtain ⟨us, g1, g2, g3, g4, g5⟩ := CvR.values (μ := μ) h5
          exact ⟨us, g1, g2, g3, g4, fun _ => ⟨_, rfl, fun j v hj => by rw [add_none]; exact g5 j v hj⟩⟩
    | emp =>
      simp only [elems, Option.some.injEq] at hel
      subst hel
      simp only [Cv] at hu
      obtain ⟨B, rfl⟩ := hu
      exact ⟨B, 0, rfl, [], by simp [CvL], fun c h => by simp at h, fun y h => by simp at h, by simp, fun h => by simp at h⟩
    | _ => cases hel
  obtain ⟨B, c, rfl, us, s1, s2, s3, s4, s5⟩ := src
  rcases Nat.eq_zero_or_pos ys.length with h0 | hpos
  · have hus : us = [] := List.eq_nil_of_length_eq_zero (by rw [s4, h0]; simp)
    subst hus
    refine ⟨[], A, cap, ob, w, ?_, s1, s2, s3, by omega, hcap, fun _ => ⟨by rw [h0]; rfl, rfl, rfl⟩, by simpa using hrow, Nat.le_refl _, rfl, rfl, rfl, fun _ _ _ => rfl, fun k hk => .inl hk⟩
    rw [h0]
    cases B <;> cases A <;> simp [Builtin.append_, run_underlying hut, sizeOf, typeInfo, hu2, Builtin.lenOf, Builtin.firstCells, hn, loadCells, loadCellsFrom, storeCells]
  · obtain ⟨a, rfl, hcells⟩ := s5 hpos
    have h1 := s1.oneCell s2
    -- the ways
    have way : ∃ v' w' base, (Builtin.append_ #[t, t] ty #[.slice A n cap, .slice (some a) ys.length c]).run P w = .ok v' w' ∧ w'.ownsRow base e z.size v' (n + ys.length) (vs ++ us) ∧
        (w.heap.size ≤ w'.heap.size ∧ w'.os = w.os ∧ w'.tape = w.tape ∧ w'.output = w.output ∧ (∀ k, k < w.heap.size → ob ≠ some k → w'.heap[k]? = w.heap[k]?)) ∧
        (∀ k, v'.ownBlock = some k → ob = some k ∨ w.heap.size ≤ k) := by
      rcases hrow with ⟨rfl, rfl⟩ | ⟨b, sp, rfl, rfl, hb, hbl⟩
      · have hn0 : n = 0 := by omega
        subst hn0
        have hvs : vs = [] := List.eq_nil_of_length_eq_zero (by rw [hvl]; simp)
        subst hvs
        cases A with
        | none =>
          obtain ⟨v', w', g1, g2, g3, _, g5⟩ := run_append_own_at (P := P) w 0 t ty e i z.zero z.size z.bytes hut hu2 hu5 hu3 hu4 hzs hsz (.slice none 0 0) 0 [] (World.ownsRow_nil w 0 e z.size) a ys.length c us s4 hcells h1 hml hbytes (Nat.zero_le _)
          refine ⟨v', w', 0, g1, by simpa using g2, ⟨g3.size, g3.os, g3.tape, g3.output, fun k hk _ => g3.block k hk (by simp [Value.ownBlock])⟩, fun k hk => .inr ?_⟩
          rcases g5 with g5 | g5
          · rw [g5] at hk; simp [Value.ownBlock] at hk
          · rw [g5] at hk; injection hk with hk; omega
        | some ad =>
          obtain ⟨v', w', g1, g2, g3⟩ := run_append_arg_grows (P := P) w t ty e i z.zero z.size z.bytes hut hu2 hu5 hu3 hu4 hzs hsz ad 0 0 [] (by simp) (fun j u h => by simp at h) a ys.length c us s4 hcells (by omega) (by simpa using hml) (by simpa using hbytes)
          refine ⟨v', w', _, g1, by simpa using g2, ⟨g3.size, g3.os, g3.tape, g3.output, fun k hk _ => g3.block k hk (by simp)⟩, fun k hk => .inr ?_⟩
          rcases g2.2 with ⟨rfl, _⟩ | ⟨g, cap', cur, rfl, hg, _⟩
          · simp [Value.ownBlock] at hk
          · simp [Value.ownBlock] at hk; omega
      · have hown : w.ownsRow 0 e z.size (.slice (some ⟨b, 0, none⟩) n cap) n vs := ⟨hvl, .inr ⟨b, cap, _, rfl, Nat.zero_le _, hb, hn, hcap, by simpa using hbl, by
          simp only [List.toList_toArray]
          rw [← hvl]
          exact List.take_left⟩⟩
        obtain ⟨v', w', g1, g2, g3, _, g5⟩ := run_append_own_at (P := P) w 0 t ty e i z.zero z.size z.bytes hut hu2 hu5 hu3 hu4 hzs hsz _ n vs hown a ys.length c us s4 hcells h1 hml hbytes (Nat.zero_le _)
        refine ⟨v', w', 0, g1, g2, ⟨g3.size, g3.os, g3.tape, g3.output, fun k hk hne => g3.block k hk (fun h => hne (by simpa [Value.ownBlock] using h.symm))⟩, fun k hk => ?_⟩
        rcases g5 with g5 | g5
        · rw [g5] at hk; exact .inl (by simpa [Value.ownBlock] using hk)
        · rw [g5] at hk; injection hk with hk; exact .inr (by omega)
    obtain ⟨v', w', base, g1, g2, ⟨k1, k2, k3, k4, k5⟩, k6⟩ := way
    rcases g2.2 with ⟨rfl, h0⟩ | ⟨g, cap', cur, rfl, hg, hh, q1, q2, q3, q4⟩
    · omega
    have hcur : cur.toList = vs ++ us ++ cur.toList.drop ((n + ys.length) * z.size) := by
      have := List.take_append_drop ((n + ys.length) * z.size) cur.toList
      rw [q4] at this
      exact this.symm
    refine ⟨us, some ⟨g, 0, none⟩, cap', some g, w', g1, s1, s2, s3, q1, q2, fun h => by omega, .inr ⟨g, cur.toList.drop ((n + ys.length) * z.size), rfl, rfl, ?_, ?_⟩, k1, k2, k3, k4, k5, fun k hk => ?_⟩
    · rw [← hcur]; simpa using hh
    · rw [← hcur]; simpa using q3
    · have := k6 k (by simpa [Value.ownBlock] using hk)
      refine this.imp id fun h => ⟨h, ?_⟩
      injection hk with hk
      subst hk
      exact (Array.getElem?_eq_some_iff.1 hh).1

section ops
variable {P : Program} {G : GlP} {Θ : TT} {o : Oper} {V : Operand → AV}

theorem append_exec {P : Program} {o : Oper} {ρ : Operand → Value} {t : TypeId} {s x : Operand} {w w' : World} {v : Value} (ho : o.op = .call { callee := .builtin .append, args := #[s, x], argTypes := #[t, t] })
    (h : (Builtin.append_ #[t, t] o.type #[ρ s, ρ x]).run P w = .ok v w') : (execOp ρ o).run P w = .ok (.value v) w' := by
  simp only [execOp, ho, resolve, invoke, builtin, Sem.run_bind, Sem.run_pure, Result.andThen_ok, List.map_toArray, List.map_cons, List.map_nil, h]

/-- append to a row of the call's own. -/
theorem tri_append_own (hΘ : TTok P Θ) (t e : TypeId) (s x : Operand) (ho : o.op = .call { callee := .builtin .append, args := #[s, x], argTypes := #[t, t] }) (y z : Ty) (hy : Θ t = some y) (hd : y.d = .slice e) (hz : Θ e = some z)
    (hzs : z.zero.cells.size = z.size) (hsz : 0 < z.size) (hby : z.bytes ≤ 32768) (l : Lbl) (n : Nat) (hs : V s = .own l n) (xs ys : List (List AV)) (hn : xs.length = n) (hx : elems z.size (V x) = some ys) (hlen : n + ys.length ≤ 4294967296) :
    Tri P G o V [(l, .row e z.size xs)] (.own l (n + ys.length)) [(l, .row e z.size (xs ++ ys))] := by
  intro E w μ Lf ρ C hf hg hv _
  have hsv := hv s (by simp [ho, Op.operands, Call.operands])
  have hxv := hv x (by simp [ho, Op.operands, Call.operands])
  rw [hs] at hsv
  simp only [Cv] at hsv
  obtain ⟨A, m, cap, ob, h1, h2, h3, A1, c1, h4⟩ := hsv
  obtain ⟨v, ob', h6, A', cap', vs, rfl, h7, h8, h9, ⟨h10, h10'⟩, h11⟩ := C.box l (.row e z.size xs) (hf l _ getL_one)
  rw [h1] at h6
  injection h6 with h6
  injection h6 with h6 h6'
  injection h6 with e1 e2 e3
  subst e1 e2 e3 h6'
  have hsv := h3 hn
  have hvl : vs.length = xs.length * z.size := by rw [h10.length, flatten_len h9]
  obtain ⟨us, A2, cap2, ob2, w', r1, r2, r3, r4, r5, r6, r7, r8, r9, r10, r11, r12, r13, r14⟩ := append_gives hΘ hy hd hz hzs hsz (O := E.O μ) (μ := μ) h7 h8 hvl h11 hx hxv (by omega) hby o.type
  have hr := append_exec (P := P) (ρ := ρ) ho (by rw [hsv]; exact r1)
  have hkp : kp (.slice A xs.length cap) (.slice A2 (xs.length + ys.length) cap2) := by
    rcases Nat.eq_zero_or_pos ys.length with h0 | hp
    · exact .inl (r7 h0).1
    · exact .inr ⟨_, _, _, _, _, _, rfl, rfl, by omega⟩
  have := C.setBox (w' := w') l _ _ h1 (.slice A2 (xs.length + ys.length) cap2) ob2 hkp (.row e z.size (xs ++ ys)) r9 r10 r11 r12 r13 r14
    (fun O' μ' hla hk => ⟨A2, cap2, vs ++ us, by simp, by simpa using r5, r6, fun y hy => by
        rcases List.mem_append.1 hy with h | h
        · exact h9 y h
        · exact r4 y h, by
        rw [List.flatten_append]
        exact ⟨(h10.mono hla _ hk).append (r2.mono hla _ hk), h10'.append r3⟩, r8⟩)
  unfold OpGives
  rw [hr]
  refine ⟨_, this.1, this.2.1, this.2.2, ?_⟩
  simp only [Cv]
  subst hn
  exact ⟨A2, _, cap2, ob2, updM_same _ _ _, Nat.le_refl _, fun _ => rfl, A2, cap2, rfl⟩

/-- append to a slice without room. -/
theorem tri_append_emp (hΘ : TTok P Θ) (t e : TypeId) (s x : Operand) (ho : o.op = .call { callee := .builtin .append, args := #[s, x], argTypes := #[t, t] }) (y z : Ty) (hy : Θ t = some y) (hd : y.d = .slice e) (hz : Θ e = some z)
    (hzs : z.zero.cells.size = z.size) (hsz : 0 < z.size) (hby : z.bytes ≤ 32768) (hs : V s = .emp) (ys : List (List AV)) (hx : elems z.size (V x) = some ys) (hlen : ys.length ≤ 4294967296) (l : Lbl) :
    Tri P G o V [] (.own l ys.length) [(l, .row e z.size ys)] := by
  intro E w μ Lf ρ C hf hg hv _
  have hsv := hv s (by simp [ho, Op.operands, Call.operands])
  have hxv := hv x (by simp [ho, Op.operands, Call.operands])
  rw [hs] at hsv
  simp only [Cv] at hsv
  obtain ⟨A, hsv⟩ := hsv
  obtain ⟨us, A2, cap2, ob2, w', r1, r2, r3, r4, r5, r6, r7, r8, r9, r10, r11, r12, r13, r14⟩ := append_gives hΘ hy hd hz hzs hsz (w := w) (O := E.O μ) (μ := μ) (A := A) (n := 0) (cap := 0) (vs := []) (ob := none) (Nat.le_refl _) (Nat.zero_le _) (by simp) (.inl ⟨rfl, rfl⟩) hx hxv (by omega) hby o.type
  have hr := append_exec (P := P) (ρ := ρ) ho (by rw [hsv]; exact r1)
  have := C.newBox (w' := w') l (fresh_one hg) (.slice A2 (0 + ys.length) cap2) ob2 (.row e z.size ys) r9 r10 r11 r12 (fun b hb => r13 b hb (by simp)) (fun b hb => by
      rcases r14 b hb with h | h
      · cases h
      · exact h)
    (fun O' μ' hla hk => ⟨A2, cap2, us, by simp, by simpa using r5, r6, r4, ⟨r2.mono hla _ hk, r3⟩, by simpa using r8⟩)
  unfold OpGives
  rw [hr]
  refine ⟨_, this.1, this.2.1, this.2.2, ?_⟩
  simp only [Cv]
  exact ⟨A2, _, cap2, ob2, updM_same _ _ _, by omega, fun _ => by simp, A2, cap2, by simp⟩

/-! Lengths. -/
theorem len_exec {P : Program} {o : Oper} {ρ : Operand → Value} {t : TypeId} {x : Operand} {w w' : World} {v : Value} (ho : o.op = .call { callee := .builtin .len, args := #[x], argTypes := #[t] })
    (h : (Builtin.len_ #[t] o.type #[ρ x]).run P w = .ok v w') : (execOp ρ o).run P w = .ok (.value v) w' := by
  simp only [execOp, ho, resolve, invoke, builtin, Sem.run_bind, Sem.run_pure, Result.andThen_ok, List.map_toArray, List.map_cons, List.map_nil, h]

def lenV (y : Ty) : AV → Option Nat
  | .lst _ xs => match y.d with | .slice _ => some xs.length | _ => none
  | .emp => match y.d with | .slice _ => some 0 | _ => none
  | .own _ n => match y.d with | .slice _ => some n | _ => none
  | .str s => match y.d with | .string => some s.length | _ => none
  | _ => none

theorem tri_len (hΘ : TTok P Θ) (t : TypeId) (x : Operand) (ho : o.op = .call { callee := .builtin .len, args := #[x], argTypes := #[t] }) (y : Ty) (hy : Θ t = some y) (n : Nat) (hn : lenV y (V x) = some n) :
    Tri P G o V [] (.int .i64 n) [] :=
  tri_pure fun E w μ Lf ρ C hf hv => by
    have hxv := hv x (by simp [ho, Op.operands, Call.operands])
    have hu := r_under hΘ hy w
    refine ⟨.int .i64 n, len_exec (P := P) ho ?_, by simp [Cv]⟩
    cases hvx : V x with
    | lst s xs =>
      rw [hvx] at hxv hn
      simp only [lenV] at hn
      simp only [Cv] at hxv
      obtain ⟨A, cap, h1, _⟩ := hxv
      split at hn
      · rename_i d hd
        rw [hd] at hu
        injection hn with hn
        simp [Builtin.len_, hu, h1, goInt, hn]
      · cases hn
    | emp =>
      rw [hvx] at hxv hn
      simp only [lenV] at hn
      simp only [Cv] at hxv
      obtain ⟨A, h1⟩ := hxv
      split at hn
      · rename_i d hd
        rw [hd] at hu
        injection hn with hn
        subst hn
        simp [Builtin.len_, hu, h1, goInt]
      · cases hn
    | own l m =>
      rw [hvx] at hxv hn
      simp only [lenV] at hn
      simp only [Cv] at hxv
      obtain ⟨_, _, _, _, _, _, _, A, c, h1⟩ := hxv
      split at hn
      · rename_i d hd
        rw [hd] at hu
        injection hn with hn
        subst hn
        simp [Builtin.len_, hu, h1, goInt]
      · cases hn
    | str s =>
      rw [hvx] at hxv hn
      simp only [lenV] at hn
      simp only [Cv] at hxv
      split at hn
      · rename_i hd
        rw [hd] at hu
        injection hn with hn
        subst hn
        have hsz : (⟨s.toArray⟩ : ByteArray).size = s.length := rfl
        simp [Builtin.len_, hu, hxv.1, goInt, hsz]
      · cases hn
    | _ => rw [hvx] at hn; cases hn

/-! Structs built. -/
def fillA (pl : Nat → Option (Nat × Nat)) : List AV → List (Nat × AV) → Option (List AV)
  | cs, [] => some cs
  | cs, (i, v) :: r => match pl i with
    | some (off, size) => match cellsOf v with
      | some vs => cond (Nat.beq vs.length size && Nat.ble (off + size) cs.length) (fillA pl (spliceL cs off vs) r) none
      | none => none
    | none => none

theorem fold_set : ∀ (l : List Value) (off k : Nat) (cs : Array Value), off + k + l.length ≤ cs.size →
    ((l.zipIdx k).foldl (fun cs (x : Value × Nat) => cs.setIfInBounds (off + x.2) x.1) cs).toList = cs.toList.take (off + k) ++ l ++ cs.toList.drop (off + k + l.length)
  | [], off, k, cs, h => by simp
  | v :: rest, off, k, cs, h => by
    simp only [List.zipIdx_cons, List.foldl_cons]
    rw [fold_set rest off (k + 1) _ (by simp at h ⊢; omega)]
    have := list_seg_step cs.toList (off + k) v rest (by simp at h ⊢; omega)
    simpa [Array.toList_setIfInBounds, Nat.add_assoc] using this

theorem fill_ok {w : World} {O : Nat → Prop} {μ : Mu} (pl : Nat → Option (Nat × Nat)) : ∀ (parts : List (Nat × AV)) (vals : List (Nat × Value)) (cs : List AV) (vs : Array Value) (r : List AV),
    fillA pl cs parts = some r → CvL w O cs μ vs.toList → allOne cs → parts.map (·.1) = vals.map (·.1) → CvL w O (parts.map (·.2)) μ (vals.map (·.2)) →
    ∃ vr, Instr.fill pl vs vals = some vr ∧ CvL w O r μ vr.toList ∧ allOne r
  | [], vals, cs, vs, r, hf, hc, h1, hi, hp => by
    simp only [fillA, Option.some.injEq] at hf
    subst hf
    cases vals with
    | nil => exact ⟨vs, rfl, hc, h1⟩
    | cons => simp at hi
  | (i, v) :: parts, [], cs, vs, r, hf, hc, h1, hi, hp => by simp at hi
  | (i, v) :: parts, (j, x) :: vals, cs, vs, r, hf, hc, h1, hi, hp => by
    simp only [List.map_cons, List.cons.injEq] at hi
    obtain ⟨rfl, hi⟩ := hi
    simp only [List.map_cons, CvL] at hp
    obtain ⟨x', xs', e, hx, hp⟩ := hp
    injection e with e1 e2
    subst e1 e2
    simp only [fillA] at hf
    cases hpl : pl i with
    | none => rw [hpl] at hf; cases hf
    | some p =>
      obtain ⟨off, size⟩ := p
      rw [hpl] at hf
      simp only at hf
      cases hcl : cellsOf v with
      | none => rw [hcl] at hf; cases hf
      | some ds =>
        rw [hcl] at hf
        simp only at hf
        cases hb : (Nat.beq ds.length size && Nat.ble (off + size) cs.length) with
        | false => rw [hb] at hf; cases hf
        | true =>
          rw [hb] at hf
          simp only [cond_true] at hf
          rw [Bool.and_eq_true] at hb
          have e1 := Nat.eq_of_beq_eq_true hb.1
          have e2 := Nat.le_of_ble_eq_true hb.2
          obtain ⟨c1, c2⟩ := cellsOf_spec hcl hx
          have l1 := hc.length
          have l2 := c1.length
          simp only [Array.length_toList] at l1 l2
          have hfold := fold_set x.cells.toList off 0 vs (by simp; omega)
          have hnew : ∃ vs', x.cells.zipIdx.foldl (fun cs (y : Value × Nat) => cs.setIfInBounds (off + y.2) y.1) vs = vs' ∧ vs'.toList = vs.toList.take off ++ x.cells.toList ++ vs.toList.drop (off + x.cells.toList.length) := by
            refine ⟨_, rfl, ?_⟩
            rw [← Array.foldl_toList, Array.toList_zipIdx]
            simpa using hfold
          obtain ⟨vs', hv1, hv2⟩ := hnew
          have ih := fill_ok (w := w) (O := O) (μ := μ) pl parts vals (spliceL cs off ds) vs' r hf (by
            rw [hv2]
            simp only [spliceL]
            rw [show ds.length = x.cells.toList.length from by simp; omega]
            exact ((hc.take off).append c1).append (hc.drop _)) (((h1.take _).append c2).append (h1.drop _)) hi hp
          obtain ⟨vr, g1, g2, g3⟩ := ih
          refine ⟨vr, ?_, g2, g3⟩
          simp only [Instr.fill, hpl]
          rw [if_neg (by simp; omega), hv1]
          exact g1

def placesOf (Θ : TT) : List Field → Option (List (Nat × Nat))
  | [] => some []
  | f :: fs => match Θ f.type with
    | some z => match placesOf Θ fs with
      | some r => some ((f.offset, z.size) :: r)
      | none => none
    | none => none
theorem placesOf_spec (hΘ : TTok P Θ) : ∀ {fs : List Field} {pl : List (Nat × Nat)}, placesOf Θ fs = some pl → fs.mapM (fun f => (P.info? f.type).map fun i => (f.offset, i.size)) = some pl
  | [], pl, h => by simp [placesOf] at h; subst h; simp
  | f :: fs, pl, h => by
    simp only [placesOf] at h
    cases hz : Θ f.type with
    | none => rw [hz] at h; cases h
    | some z =>
      rw [hz] at h
      simp only at h
      cases hr : placesOf Θ fs with
      | none => rw [hr] at h; cases h
      | some r =>
        rw [hr] at h
        simp only [Option.some.injEq] at h
        subst h
        obtain ⟨i, _, h2, h3, _⟩ := hΘ _ _ hz
        simp [List.mapM_cons, h2, placesOf_spec hΘ hr, h3]

def buildA (Θ : TT) (t : TypeId) (parts : List (Nat × AV)) : Option (List AV) :=
  match Θ t with
  | some y => match y.d with
    | .struct fs => match placesOf Θ fs.toList with
      | some pl => fillA (pl[·]?) (zcells y) parts
      | none => none
    | .array _ e => match Θ e with
      | some z => fillA (fun i => some (i * z.size, z.size)) (zcells y) parts
      | none => none
    | _ => none
  | none => none

theorem tri_build (hΘ : TTok P Θ) (t : TypeId) (parts : Array (Nat × Operand)) (ho : o.op = .build t parts) (y : Ty) (hy : Θ t = some y) (h1 : allOneB (zcells y) = true) (r : List AV)
    (hr : buildA Θ t (parts.toList.map fun p => (p.1, V p.2)) = some r) : Tri P G o V [] (.agg r) [] :=
  tri_pure fun E w μ Lf ρ C hf hv => by
    obtain ⟨i, hu1, hu2, hu3, hu4, hu5⟩ := hΘ t y hy
    have hps : CvL w (E.O μ) ((parts.toList.map fun p => (p.1, V p.2)).map (·.2)) μ ((parts.toList.map fun p => (p.1, ρ p.2)).map (·.2)) := by
      have hm : ∀ (l : List (Nat × Operand)), (∀ p ∈ l, p.2 ∈ o.op.operands) → CvL w (E.O μ) ((l.map fun p => (p.1, V p.2)).map (·.2)) μ ((l.map fun p => (p.1, ρ p.2)).map (·.2)) := by
        intro l
        induction l with
        | nil => intro _; simp [CvL]
        | cons a l ih =>
          intro h
          simp only [List.map_cons, CvL]
          exact ⟨_, _, rfl, hv _ (h a List.mem_cons_self), ih fun x hx => h x (List.mem_cons_of_mem _ hx)⟩
      exact hm _ fun p hp => by
        rw [ho]
        simp only [Op.operands, List.mem_toArray]
        exact List.mem_map_of_mem hp
    have hidx : (parts.toList.map fun p => (p.1, V p.2)).map (·.1) = (parts.toList.map fun p => (p.1, ρ p.2)).map (·.1) := by simp [List.map_map, Function.comp_def]
    have hz := zcells_spec y w (E.O μ) μ
    have key : ∃ cells, P.built t (parts.toList.map fun p => (p.1, ρ p.2)) = some cells ∧ CvL w (E.O μ) r μ cells.toList ∧ allOne r := by
      unfold buildA at hr
      rw [hy] at hr
      simp only at hr
      unfold Program.built
      rw [hu2, hu1]
      split at hr
      · rename_i fs hd
        split at hr
        · rename_i pl hp
          obtain ⟨vr, g1, g2, g3⟩ := fill_ok (w := w) (O := E.O μ) (μ := μ) _ _ _ _ _ _ hr hz (allOneB_iff h1) hidx hps
          refine ⟨vr, ?_, g2, g3⟩
          rw [hd]
          simp only [hu5, placesOf_spec hΘ hp]
          simpa using g1
        · cases hr
      · rename_i n e hd
        split at hr
        · rename_i z hz'
          obtain ⟨vr, g1, g2, g3⟩ := fill_ok (w := w) (O := E.O μ) (μ := μ) _ _ _ _ _ _ hr hz (allOneB_iff h1) hidx hps
          obtain ⟨j, _, hj2, hj3, _⟩ := hΘ e z hz'
          refine ⟨vr, ?_, g2, g3⟩
          rw [hd]
          simp only [hu5, hj2, hj3]
          exact g1
        · cases hr
      · cases hr
    obtain ⟨cells, k1, k2, k3⟩ := key
    refine ⟨.agg cells, ?_, by simp only [Cv]; exact ⟨cells, rfl, k2, k3⟩⟩
    have := run_build (P := P) w t (parts.map fun (i, x) => (i, ρ x)) cells (by simpa using k1)
    simp only [execOp, ho, Sem.run_bind, this]
    rfl
end ops
end Go.Ab
