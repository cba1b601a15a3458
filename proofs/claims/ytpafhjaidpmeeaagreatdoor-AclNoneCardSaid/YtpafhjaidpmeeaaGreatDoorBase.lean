/- Words of this claim: data in memory told as trees, and how such a reading is kept. -/
import Derived.WalkKit
import Derived.WalkLawsBesides
import Derived.Maps.AppendAt
import Derived.Outline
import Derived.Lib.Hide
import Derived.Deep.LoopGhost
import Derived.Deep.DeepFit
import Derived.Handy
set_option linter.unusedVariables false
namespace Go.Ag
open Go.RowKit

/-- A value's cells as a tree: a cell that leads nowhere; a slice of n elements, the elements' cells one behind the other. -/
inductive T where
  | s (v : Value)
  | l (n : Nat) (ts : List T)

mutual
/-- In the world w, through blocks of S alone, the value u reads as the tree. -/
def R (w : World) (S : Nat → Prop) : T → Value → Prop
  | .s v, u => u = v
  | .l n ts, u => ∃ A c vs, u = .slice A n c ∧ n ≤ c ∧ c ≤ maxLen ∧ Rs w S ts vs ∧
      (vs ≠ [] → ∃ g o, A = some ⟨g, o, none⟩ ∧ S g ∧ ∀ i v, vs[i]? = some v → w.cell? ⟨g, o + i, none⟩ = some v)
def Rs (w : World) (S : Nat → Prop) : List T → List Value → Prop
  | [], vs => vs = []
  | t :: ts, vs => ∃ u us, vs = u :: us ∧ R w S t u ∧ Rs w S ts us
end

/-- From w to w' no block of S has turned. -/
def Kept (S : Nat → Prop) (w w' : World) : Prop := ∀ k, S k → w'.heap[k]? = w.heap[k]?

theorem Kept.refl (S : Nat → Prop) (w : World) : Kept S w w := fun _ _ => rfl
theorem Kept.trans {S : Nat → Prop} {a b c : World} (h : Kept S a b) (k : Kept S b c) : Kept S a c := fun i hi => (k i hi).trans (h i hi)
theorem Kept.cell {S : Nat → Prop} {w w' : World} (h : Kept S w w') {g o : Nat} (hg : S g) : w'.cell? ⟨g, o, none⟩ = w.cell? ⟨g, o, none⟩ :=
  World.cell?_of_block (w := w) (h g hg)

mutual
theorem R.mono {w w' : World} {S S' : Nat → Prop} (hS : ∀ k, S k → S' k) (hk : Kept S w w') : ∀ {t : T} {u : Value}, R w S t u → R w' S' t u
  | .s v, u, h => by simpa only [R] using h
  | .l n ts, u, h => by
    simp only [R] at h ⊢
    obtain ⟨A, c, vs, hu, hn, hc, hr, ha⟩ := h
    refine ⟨A, c, vs, hu, hn, hc, Rs.mono hS hk hr, fun hne => ?_⟩
    obtain ⟨g, o, hA, hg, hcell⟩ := ha hne
    exact ⟨g, o, hA, hS g hg, fun i v hi => (hk.cell hg).trans (hcell i v hi)⟩
theorem Rs.mono {w w' : World} {S S' : Nat → Prop} (hS : ∀ k, S k → S' k) (hk : Kept S w w') : ∀ {ts : List T} {vs : List Value}, Rs w S ts vs → Rs w' S' ts vs
  | [], vs, h => by simpa only [Rs] using h
  | t :: ts, vs, h => by
    simp only [Rs] at h ⊢
    obtain ⟨u, us, hv, h1, h2⟩ := h
    exact ⟨u, us, hv, R.mono hS hk h1, Rs.mono hS hk h2⟩
end

section
variable {w w' : World} {S S' : Nat → Prop}
theorem R.kept {t : T} {u : Value} (h : R w S t u) (hk : Kept S w w') : R w' S t u := h.mono (fun _ h => h) hk
theorem Rs.kept {ts : List T} {vs : List Value} (h : Rs w S ts vs) (hk : Kept S w w') : Rs w' S ts vs := h.mono (fun _ h => h) hk
theorem R.wide {t : T} {u : Value} (h : R w S t u) (hS : ∀ k, S k → S' k) : R w S' t u := h.mono hS (Kept.refl _ _)
theorem Rs.wide {ts : List T} {vs : List Value} (h : Rs w S ts vs) (hS : ∀ k, S k → S' k) : Rs w S' ts vs := h.mono hS (Kept.refl _ _)

theorem Rs.len : ∀ {ts : List T} {vs : List Value}, Rs w S ts vs → vs.length = ts.length
  | [], vs, h => by simp only [Rs] at h; rw [h]; rfl
  | t :: ts, vs, h => by
    simp only [Rs] at h
    obtain ⟨u, us, rfl, _, h2⟩ := h
    simp [Rs.len h2]
theorem Rs.append : ∀ {ts : List T} {vs : List Value} {ts' : List T} {vs' : List Value}, Rs w S ts vs → Rs w S ts' vs' → Rs w S (ts ++ ts') (vs ++ vs')
  | [], vs, ts', vs', h, h' => by simp only [Rs] at h; subst h; exact h'
  | t :: ts, vs, ts', vs', h, h' => by
    simp only [Rs] at h
    obtain ⟨u, us, rfl, h1, h2⟩ := h
    exact ⟨u, us ++ vs', rfl, h1, Rs.append h2 h'⟩
theorem Rs.drop : ∀ (n : Nat) {ts : List T} {vs : List Value}, Rs w S ts vs → Rs w S (ts.drop n) (vs.drop n)
  | 0, ts, vs, h => h
  | n + 1, [], vs, h => by simp only [Rs] at h; subst h; simp [Rs]
  | n + 1, t :: ts, vs, h => by
    simp only [Rs] at h
    obtain ⟨u, us, rfl, _, h2⟩ := h
    simpa using Rs.drop n h2
theorem Rs.take : ∀ (n : Nat) {ts : List T} {vs : List Value}, Rs w S ts vs → Rs w S (ts.take n) (vs.take n)
  | 0, ts, vs, h => by simp [Rs]
  | n + 1, [], vs, h => by simp only [Rs] at h; subst h; simp [Rs]
  | n + 1, t :: ts, vs, h => by
    simp only [Rs] at h
    obtain ⟨u, us, rfl, h1, h2⟩ := h
    simp only [List.take_succ_cons, Rs]
    exact ⟨u, _, rfl, h1, Rs.take n h2⟩
theorem Rs.split {ts ts' : List T} {vs : List Value} (h : Rs w S (ts ++ ts') vs) : ∃ us us', vs = us ++ us' ∧ Rs w S ts us ∧ Rs w S ts' us' :=
  ⟨vs.take ts.length, vs.drop ts.length, (List.take_append_drop _ _).symm, by simpa using h.take ts.length, by simpa using h.drop ts.length⟩
theorem Rs.at {ts : List T} {vs : List Value} (h : Rs w S ts vs) (i : Nat) {t : T} (ht : ts[i]? = some t) : ∃ u, vs[i]? = some u ∧ R w S t u := by
  induction ts generalizing vs i with
  | nil => simp at ht
  | cons a ts ih =>
    simp only [Rs] at h
    obtain ⟨u, us, rfl, h1, h2⟩ := h
    cases i with
    | zero => simp at ht; subst ht; exact ⟨u, rfl, h1⟩
    | succ i => simpa using ih h2 i (by simpa using ht)
theorem Rs.scalars (l : List Value) : Rs w S (l.map T.s) l := by
  induction l with
  | nil => simp [Rs]
  | cons a l ih => exact ⟨a, l, rfl, by simp [R], ih⟩
theorem Rs.scalars_eq {l vs : List Value} (h : Rs w S (l.map T.s) vs) : vs = l := by
  induction l generalizing vs with
  | nil => simpa [Rs] using h
  | cons a l ih =>
    simp only [List.map_cons, Rs, R] at h
    obtain ⟨u, us, rfl, rfl, h2⟩ := h
    rw [ih h2]
end
end Go.Ag
