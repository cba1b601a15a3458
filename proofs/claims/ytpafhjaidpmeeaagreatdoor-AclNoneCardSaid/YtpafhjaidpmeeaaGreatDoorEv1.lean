/- Words of this claim: an evaluator. Abstract values: blocks by number, a map from these numbers to the machine's blocks; what it is to stand for a value. -/
import Derived.CallsIn
import Derived.RangeFuncIn
import Derived.RecoverIn
import Derived.OrdersIn
import Derived.Below
import Derived.KernelRfl
set_option linter.unusedVariables false
namespace Go.Ev
open Go.RowKit

inductive AV where
  | bool (b : Bool)
  | int (k : IntKind) (n : Int)
  | str (s : List Nat)
  | ptrN
  | ptr (z r o : Nat)
  | slN
  | sl (z r o n : Nat) (c : Option Nat) (s : Nat)
  | slE
  | mapN
  | map (z : Nat)
  | fnN
  | fn (f : FuncId) (caps : List AV)
  | yld (z : Nat)
  | ifN
  | iface (t : TypeId) (x : AV)
  | agg (cs : List AV)
  | tup (vs : List AV)
  deriving Inhabited

def AV.undef : AV := .tup []

/-- Where an abstract block lies: the machine's block; the abstract place of its first cell; the abstract place behind its last; an element's cells. -/
structure Ent where
  b : Nat
  sub : Nat
  top : Nat
  esz : Nat

abbrev Env := Nat → Nat → Option Ent
def Env.le (E E' : Env) : Prop := ∀ z r e, E z r = some e → E' z r = some e
theorem Env.le_refl (E : Env) : E.le E := fun _ _ _ h => h
theorem Env.le_trans {A B C : Env} (h : A.le B) (k : B.le C) : A.le C := fun z r e x => k z r e (h z r e x)

def mkS (s : List Nat) : ByteArray := ⟨(s.map UInt8.ofNat).toArray⟩
def capOk (e : Ent) (o k : Nat) : Option Nat → Prop
  | none => k * e.esz + o = e.top
  | some m => k = m ∧ m * e.esz + o ≤ e.top

mutual
def VR (E : Env) : AV → Value → Prop
  | .bool b, v => v = .bool b
  | .int k n, v => v = .int k n
  | .str s, v => v = .string (mkS s) ∧ ∀ x ∈ s, x < 256
  | .ptrN, v => v = .pointer none
  | .ptr z r o, v => ∃ e, E z r = some e ∧ e.sub ≤ o ∧ v = .pointer (some ⟨e.b, o - e.sub, none⟩)
  | .slN, v => v = .slice none 0 0
  | .sl z r o n c s, v => ∃ e k, E z r = some e ∧ e.sub ≤ o ∧ v = .slice (some ⟨e.b, o - e.sub, none⟩) n k ∧ n ≤ k ∧ 0 < e.esz ∧ e.esz = s ∧ capOk e o k c
  | .slE, v => ∃ a k, v = .slice (some a) 0 k
  | .mapN, v => v = .map none
  | .map z, v => ∃ e, E z 0 = some e ∧ v = .map (some e.b)
  | .fnN, v => v = .nilFunc
  | .fn f cs, v => ∃ us, v = .func (.func f) #[] us.toArray ∧ VRs E cs us
  | .yld z, v => ∃ e, E z 0 = some e ∧ v = .func (.yield e.b) #[] #[]
  | .ifN, v => v = .nilIface
  | .iface t x, v => ∃ u, v = .iface t u ∧ VR E x u
  | .agg cs, v => ∃ us, v = .agg us.toArray ∧ VRs E cs us
  | .tup cs, v => ∃ us, v = .tuple us.toArray ∧ VRs E cs us
def VRs (E : Env) : List AV → List Value → Prop
  | [], vs => vs = []
  | c :: cs, vs => ∃ u us, vs = u :: us ∧ VR E c u ∧ VRs E cs us
end

mutual
theorem VR.mono {E E' : Env} (h : E.le E') : ∀ {a : AV} {v : Value}, VR E a v → VR E' a v
  | .bool _, _, k => k
  | .int _ _, _, k => k
  | .str _, _, k => k
  | .ptrN, _, k => k
  | .ptr z r o, _, ⟨e, h1, h2⟩ => ⟨e, h _ _ _ h1, h2⟩
  | .slN, _, k => k
  | .sl z r o n c s, _, ⟨e, k, h1, h2⟩ => ⟨e, k, h _ _ _ h1, h2⟩
  | .slE, _, k => k
  | .mapN, _, k => k
  | .map z, _, ⟨e, h1, h2⟩ => ⟨e, h _ _ _ h1, h2⟩
  | .fnN, _, k => k
  | .fn f cs, _, ⟨us, h1, h2⟩ => ⟨us, h1, VRs.mono h h2⟩
  | .yld z, _, ⟨e, h1, h2⟩ => ⟨e, h _ _ _ h1, h2⟩
  | .ifN, _, k => k
  | .iface t x, _, ⟨u, h1, h2⟩ => ⟨u, h1, VR.mono h h2⟩
  | .agg cs, _, ⟨us, h1, h2⟩ => ⟨us, h1, VRs.mono h h2⟩
  | .tup cs, _, ⟨us, h1, h2⟩ => ⟨us, h1, VRs.mono h h2⟩
theorem VRs.mono {E E' : Env} (h : E.le E') : ∀ {as : List AV} {vs : List Value}, VRs E as vs → VRs E' as vs
  | [], _, k => k
  | a :: as, _, ⟨u, us, h1, h2, h3⟩ => ⟨u, us, h1, VR.mono h h2, VRs.mono h h3⟩
end

section
variable {E : Env}
theorem VRs.len : ∀ {as : List AV} {vs : List Value}, VRs E as vs → vs.length = as.length
  | [], vs, h => by simp only [VRs] at h; rw [h]; rfl
  | a :: as, vs, h => by
    simp only [VRs] at h
    obtain ⟨u, us, rfl, _, h2⟩ := h
    simp [VRs.len h2]
theorem VRs.append : ∀ {as : List AV} {vs : List Value} {bs : List AV} {us : List Value}, VRs E as vs → VRs E bs us → VRs E (as ++ bs) (vs ++ us)
  | [], vs, _, _, h, k => by simp only [VRs] at h; subst h; exact k
  | a :: as, vs, bs, us, h, k => by
    simp only [VRs] at h
    obtain ⟨u, ws, rfl, h1, h2⟩ := h
    exact ⟨u, ws ++ us, rfl, h1, VRs.append h2 k⟩
theorem VRs.drop : ∀ (n : Nat) {as : List AV} {vs : List Value}, VRs E as vs → VRs E (as.drop n) (vs.drop n)
  | 0, _, _, h => h
  | n + 1, [], vs, h => by simp only [VRs] at h; subst h; simp [VRs]
  | n + 1, a :: as, vs, h => by
    simp only [VRs] at h
    obtain ⟨u, us, rfl, _, h2⟩ := h
    simpa using VRs.drop n h2
theorem VRs.take : ∀ (n : Nat) {as : List AV} {vs : List Value}, VRs E as vs → VRs E (as.take n) (vs.take n)
  | 0, _, _, h => by simp [VRs]
  | n + 1, [], vs, h => by simp only [VRs] at h; subst h; simp [VRs]
  | n + 1, a :: as, vs, h => by
    simp only [VRs] at h
    obtain ⟨u, us, rfl, h1, h2⟩ := h
    simp only [List.take_succ_cons, VRs]
    exact ⟨u, _, rfl, h1, VRs.take n h2⟩
theorem VRs.at {as : List AV} {vs : List Value} (h : VRs E as vs) (i : Nat) {a : AV} (ha : as[i]? = some a) : ∃ u, vs[i]? = some u ∧ VR E a u := by
  induction as generalizing vs i with
  | nil => simp at ha
  | cons x as ih =>
    simp only [VRs] at h
    obtain ⟨u, us, rfl, h1, h2⟩ := h
    cases i with
    | zero => simp at ha; subst ha; exact ⟨u, rfl, h1⟩
    | succ i => simpa using ih h2 i (by simpa using ha)
theorem VRs.set : ∀ {as : List AV} {vs : List Value} (i : Nat) {a : AV} {u : Value}, VRs E as vs → VR E a u → VRs E (as.set i a) (vs.set i u)
  | [], vs, _, _, _, h, _ => by simp only [VRs] at h; subst h; simp [VRs]
  | b :: as, vs, 0, a, u, h, k => by
    simp only [VRs] at h
    obtain ⟨x, us, rfl, h1, h2⟩ := h
    exact ⟨u, us, rfl, k, h2⟩
  | b :: as, vs, i + 1, a, u, h, k => by
    simp only [VRs] at h
    obtain ⟨x, us, rfl, h1, h2⟩ := h
    exact ⟨x, us.set i u, rfl, h1, VRs.set i h2 k⟩
theorem VRs.of_fn {as : List AV} {vs : List Value} (hl : vs.length = as.length) (h : ∀ (i : Nat) (a : AV), as[i]? = some a → ∃ u, vs[i]? = some u ∧ VR E a u) : VRs E as vs := by
  induction as generalizing vs with
  | nil => simpa [VRs] using hl
  | cons a as ih =>
    cases vs with
    | nil => simp at hl
    | cons v vs =>
      obtain ⟨u, hu, hr⟩ := h 0 a rfl
      simp at hu; subst hu
      exact ⟨v, vs, rfl, hr, ih (by simpa using hl) fun i a hi => by simpa using h (i + 1) a (by simpa using hi)⟩
theorem VR.undef : VR E AV.undef Go.undef := by simp [VR, AV.undef, VRs, Go.undef]
end

/-- A value's cells. -/
def AV.cells : AV → List AV
  | .agg cs => cs
  | v => [v]
theorem VR.cells {E : Env} {a : AV} {v : Value} (h : VR E a v) : VRs E a.cells v.cells.toList := by
  cases a with
  | agg cs => obtain ⟨us, rfl, h2⟩ := h; simpa [AV.cells, Value.cells] using h2
  | bool b => simp only [VR] at h; subst h; exact ⟨_, _, rfl, rfl, rfl⟩
  | int k n => simp only [VR] at h; subst h; exact ⟨_, _, rfl, rfl, rfl⟩
  | str s => have h' := h; simp only [VR] at h; obtain ⟨rfl, _⟩ := h; exact ⟨_, _, rfl, h', rfl⟩
  | ptrN => simp only [VR] at h; subst h; exact ⟨_, _, rfl, rfl, rfl⟩
  | ptr z r o => have h' := h; obtain ⟨e, _, _, rfl⟩ := h; exact ⟨_, _, rfl, h', rfl⟩
  | slN => simp only [VR] at h; subst h; exact ⟨_, _, rfl, rfl, rfl⟩
  | sl z r o n c s => have h' := h; obtain ⟨e, k, _, _, rfl, _⟩ := h; exact ⟨_, _, rfl, h', rfl⟩
  | slE => have h' := h; obtain ⟨a, k, rfl⟩ := h; exact ⟨_, _, rfl, h', rfl⟩
  | mapN => simp only [VR] at h; subst h; exact ⟨_, _, rfl, rfl, rfl⟩
  | map z => have h' := h; obtain ⟨e, _, rfl⟩ := h; exact ⟨_, _, rfl, h', rfl⟩
  | fnN => simp only [VR] at h; subst h; exact ⟨_, _, rfl, rfl, rfl⟩
  | fn f cs => have h' := h; obtain ⟨us, rfl, _⟩ := h; exact ⟨_, _, rfl, h', rfl⟩
  | yld z => have h' := h; obtain ⟨e, _, rfl⟩ := h; exact ⟨_, _, rfl, h', rfl⟩
  | ifN => simp only [VR] at h; subst h; exact ⟨_, _, rfl, rfl, rfl⟩
  | iface t x => have h' := h; obtain ⟨u, rfl, _⟩ := h; exact ⟨_, _, rfl, h', rfl⟩
  | tup cs => have h' := h; obtain ⟨us, rfl, _⟩ := h; exact ⟨_, _, rfl, h', rfl⟩
/-- A value of one cell. -/
def AV.one : AV → Bool
  | .agg _ => false
  | .tup _ => false
  | _ => true
theorem VR.one {E : Env} {a : AV} {v : Value} (h : VR E a v) (ho : a.one = true) : v.oneCell' = true := by
  cases a with
  | agg cs => cases ho
  | tup cs => cases ho
  | bool b => simp only [VR] at h; subst h; rfl
  | int k n => simp only [VR] at h; subst h; rfl
  | str s => simp only [VR] at h; obtain ⟨rfl, _⟩ := h; rfl
  | ptrN => simp only [VR] at h; subst h; rfl
  | ptr z r o => obtain ⟨e, _, _, rfl⟩ := h; rfl
  | slN => simp only [VR] at h; subst h; rfl
  | sl z r o n c s => obtain ⟨e, k, _, _, rfl, _⟩ := h; rfl
  | slE => obtain ⟨a, k, rfl⟩ := h; rfl
  | mapN => simp only [VR] at h; subst h; rfl
  | map z => obtain ⟨e, _, rfl⟩ := h; rfl
  | fnN => simp only [VR] at h; subst h; rfl
  | fn f cs => obtain ⟨us, rfl, _⟩ := h; rfl
  | yld z => obtain ⟨e, _, rfl⟩ := h; rfl
  | ifN => simp only [VR] at h; subst h; rfl
  | iface t x => obtain ⟨u, rfl, _⟩ := h; rfl

/-! ### Numbers to things -/
inductive Tr (α : Type) where
  | e
  | n (v : Option α) (l r : Tr α)
  deriving Inhabited

def Tr.get {α : Type} : Tr α → Nat → Option α
  | .e, _ => none
  | .n v l r, k => match k with
    | 0 => v
    | k + 1 => match Nat.mod k 2 with
      | 0 => l.get (Nat.div k 2)
      | _ + 1 => r.get (Nat.div k 2)
def Tr.set {α : Type} (v : α) : Nat → Tr α → Nat → Tr α
  | 0, t, _ => t
  | f + 1, .e, k => match k with
    | 0 => .n (some v) .e .e
    | k + 1 => match Nat.mod k 2 with
      | 0 => .n none (Tr.set v f .e (Nat.div k 2)) .e
      | _ + 1 => .n none .e (Tr.set v f .e (Nat.div k 2))
  | f + 1, .n u l r, k => match k with
    | 0 => .n (some v) l r
    | k + 1 => match Nat.mod k 2 with
      | 0 => .n u (Tr.set v f l (Nat.div k 2)) r
      | _ + 1 => .n u l (Tr.set v f r (Nat.div k 2))
def Tr.put {α : Type} (t : Tr α) (k : Nat) (v : α) : Tr α := Tr.set v (k + 1) t k

theorem Tr.get_e {α : Type} (k : Nat) : (Tr.e : Tr α).get k = none := rfl
theorem Tr.get_set {α : Type} (v : α) : ∀ (f : Nat) (t : Tr α) (k j : Nat), k < f → (Tr.set v f t k).get j = if j = k then some v else t.get j := by
  intro f
  induction f with
  | zero => intro t k j h; omega
  | succ f ih =>
    intro t k j h
    have key : ∀ k j : Nat, Nat.mod k 2 = Nat.mod j 2 → (Nat.div j 2 = Nat.div k 2 ↔ j = k) := by
      intro k j hm
      have h1 : k % 2 = j % 2 := hm
      show j / 2 = k / 2 ↔ j = k
      omega
    cases t with
    | e =>
      cases k with
      | zero =>
        cases j with
        | zero => simp [Tr.set, Tr.get]
        | succ j => simp only [Tr.set, Tr.get]; split <;> simp
      | succ k =>
        have hk : Nat.div k 2 < f := by show k / 2 < f; omega
        simp only [Tr.set]
        cases hk2 : Nat.mod k 2 with
        | zero =>
          simp only [Tr.get]
          cases j with
          | zero => simp
          | succ j =>
            simp only []
            cases hj2 : Nat.mod j 2 with
            | zero => simp only [ih _ _ _ hk, key k j (hk2.trans hj2.symm), Tr.get, Nat.add_right_cancel_iff]
            | succ m =>
              have : j ≠ k := fun e => by subst e; omega
              simp [this]
        | succ m' =>
          simp only [Tr.get]
          cases j with
          | zero => simp
          | succ j =>
            simp only []
            have h1 : k % 2 = m' + 1 := hk2
            cases hj2 : Nat.mod j 2 with
            | zero =>
              have : j ≠ k := fun e => by subst e; omega
              simp [this]
            | succ m =>
              have h2 : j % 2 = m + 1 := hj2
              have : m = m' := by omega
              subst this
              simp only [ih _ _ _ hk, key k j (hk2.trans hj2.symm), Tr.get, Nat.add_right_cancel_iff]
    | n u l r =>
      cases k with
      | zero =>
        cases j with
        | zero => simp [Tr.set, Tr.get]
        | succ j => simp only [Tr.set, Tr.get]; split <;> simp
      | succ k =>
        have hk : Nat.div k 2 < f := by show k / 2 < f; omega
        simp only [Tr.set]
        cases hk2 : Nat.mod k 2 with
        | zero =>
          simp only [Tr.get]
          cases j with
          | zero => simp
          | succ j =>
            simp only []
            cases hj2 : Nat.mod j 2 with
            | zero => simp only [ih _ _ _ hk, key k j (hk2.trans hj2.symm), Nat.add_right_cancel_iff]
            | succ m =>
              have : j ≠ k := fun e => by subst e; omega
              simp [this]
        | succ m' =>
          simp only [Tr.get]
          cases j with
          | zero => simp
          | succ j =>
            simp only []
            have h1 : k % 2 = m' + 1 := hk2
            cases hj2 : Nat.mod j 2 with
            | zero =>
              have : j ≠ k := fun e => by subst e; omega
              simp [this]
            | succ m =>
              have h2 : j % 2 = m + 1 := hj2
              have : m = m' := by omega
              subst this
              simp only [ih _ _ _ hk, key k j (hk2.trans hj2.symm), Nat.add_right_cancel_iff]
theorem Tr.get_put {α : Type} (t : Tr α) (k j : Nat) (v : α) : (t.put k v).get j = if j = k then some v else t.get j := Tr.get_set v _ t k j (Nat.lt_succ_self k)

def ev0 {α : Type} : List α → List α
  | [] => []
  | [x] => [x]
  | x :: _ :: r => x :: ev0 r
def ev1 {α : Type} : List α → List α
  | [] => []
  | [_] => []
  | _ :: y :: r => y :: ev1 r
theorem ev0_get {α : Type} : ∀ (l : List α) (i : Nat), (ev0 l)[i]? = l[2 * i]?
  | [], i => by simp [ev0]
  | [x], 0 => by simp [ev0]
  | [x], i + 1 => by simp [ev0]
  | x :: y :: r, 0 => by simp [ev0]
  | x :: y :: r, i + 1 => by simp only [ev0, List.getElem?_cons_succ, ev0_get r i, show 2 * (i + 1) = 2 * i + 1 + 1 by omega]
theorem ev1_get {α : Type} : ∀ (l : List α) (i : Nat), (ev1 l)[i]? = l[2 * i + 1]?
  | [], i => by simp [ev1]
  | [x], 0 => by simp [ev1]
  | [x], i + 1 => by simp [ev1]
  | x :: y :: r, 0 => by simp [ev1]
  | x :: y :: r, i + 1 => by simp only [ev1, List.getElem?_cons_succ, ev1_get r i, show 2 * (i + 1) + 1 = 2 * i + 1 + 1 + 1 by omega]
/-- A row as a tree. -/
def Tr.ofL {α : Type} : Nat → List α → Tr α
  | 0, _ => .e
  | _ + 1, [] => .e
  | f + 1, x :: r => .n (some x) (Tr.ofL f (ev0 r)) (Tr.ofL f (ev1 r))
theorem Tr.ofL_get {α : Type} : ∀ (f : Nat) (l : List α) (k : Nat) (x : α), (Tr.ofL f l).get k = some x → l[k]? = some x := by
  intro f
  induction f with
  | zero => intro l k x h; simp [Tr.ofL, Tr.get] at h
  | succ f ih =>
    intro l k x h
    cases l with
    | nil => simp [Tr.ofL, Tr.get] at h
    | cons y r =>
      simp only [Tr.ofL, Tr.get] at h
      cases k with
      | zero => simpa using h
      | succ k =>
        simp only [List.getElem?_cons_succ]
        simp only [] at h
        cases hk : Nat.mod k 2 with
        | zero =>
          rw [hk] at h
          have h1 := ih _ _ _ h
          rw [ev0_get] at h1
          have h2 : k % 2 = 0 := hk
          have h3 : 2 * Nat.div k 2 = k := by show 2 * (k / 2) = k; omega
          rwa [h3] at h1
        | succ m =>
          rw [hk] at h
          have h1 := ih _ _ _ h
          rw [ev1_get] at h1
          have h2 : k % 2 = m + 1 := hk
          have h3 : 2 * Nat.div k 2 + 1 = k := by show 2 * (k / 2) + 1 = k; omega
          rwa [h3] at h1
end Go.Ev
