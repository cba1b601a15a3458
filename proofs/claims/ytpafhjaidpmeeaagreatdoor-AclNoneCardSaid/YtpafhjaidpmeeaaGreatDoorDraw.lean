/- Words of this claim: a region that draws its order, and whose operations lay new blocks, append and call: one proof an operation serves every order. Blocks bear colours: 0 is frozen, another is a row that one operation after another writes. -/
import Derived.Test.YtpafhjaidpmeeaaGreatDoorRow
import Derived.StillTail
set_option linter.unusedVariables false
set_option linter.unusedSimpArgs false
namespace Go.Ag
open Go.RowKit

/-- Each block's colour. -/
abbrev Col := Nat → Nat

/-- What an operation of the colour c does: it writes blocks of its colour, and lays new ones. -/
structure Fr (c : Nat) (w w' : World) (g g' : Col) : Prop where
  os : w'.os = w.os
  tape : w'.tape = w.tape
  output : w'.output = w.output
  size : w.heap.size ≤ w'.heap.size
  col : ∀ k, k < w.heap.size → g' k = g k
  block : ∀ k, k < w.heap.size → (c = 0 ∨ g k ≠ c) → w'.heap[k]? = w.heap[k]?

theorem Fr.refl (c : Nat) (w : World) (g : Col) : Fr c w w g g := ⟨rfl, rfl, rfl, Nat.le_refl _, fun _ _ => rfl, fun _ _ _ => rfl⟩
theorem Fr.of {w w' : World} (c : Nat) (h : Below w.heap.size w w') (g : Col) (g' : Col) (hg : ∀ k, k < w.heap.size → g' k = g k) : Fr c w w' g g' := ⟨h.os, h.tape, h.output, h.size, hg, fun k hk _ => h.block k hk⟩
/-- New blocks in a colour. -/
def paint (g : Col) (n c : Nat) : Col := fun k => if k < n then g k else c
theorem Fr.paint {w w' : World} (c d : Nat) (h : Below w.heap.size w w') (g : Col) : Fr c w w' g (paint g w.heap.size d) := Fr.of c h g _ fun k hk => by simp [Go.Ag.paint, hk]

/-- From the region's beginning to now. -/
structure Fr0 (w w' : World) (g g' : Col) : Prop where
  os : w'.os = w.os
  tape : w'.tape = w.tape
  output : w'.output = w.output
  size : w.heap.size ≤ w'.heap.size
  col : ∀ k, k < w.heap.size → g' k = g k
  block : ∀ k, k < w.heap.size → (g k = 0 ∨ 9 ≤ g k) → w'.heap[k]? = w.heap[k]?
theorem Fr0.step {w0 w w' : World} {g0 g g' : Col} {c : Nat} (h : Fr0 w0 w g0 g) (k : Fr c w w' g g') (h9 : c < 9) : Fr0 w0 w' g0 g' :=
  ⟨k.os.trans h.os, k.tape.trans h.tape, k.output.trans h.output, Nat.le_trans h.size k.size, fun i hi => (k.col i (Nat.lt_of_lt_of_le hi h.size)).trans (h.col i hi),
    fun i hi h0 => (k.block i (Nat.lt_of_lt_of_le hi h.size) (by
      rw [h.col i hi]
      by_cases hc : c = 0
      · exact .inl hc
      · exact .inr (by omega))).trans (h.block i hi h0)⟩
theorem Fr0.below {w w' : World} {g g' : Col} (h : Fr0 w w' g g') (h0 : ∀ k, k < w.heap.size → g k = 0 ∨ 9 ≤ g k) : Below w.heap.size w w' := ⟨h.os, h.tape, h.output, h.size, fun k hk => h.block k hk (h0 k hk)⟩

open Classical in
/-- What is read is frozen; all else is left alone. -/
noncomputable def icol (S : Nat → Prop) : Col := fun b => if S b then 0 else 9
theorem icol_or (S : Nat → Prop) (b : Nat) : icol S b = 0 ∨ 9 ≤ icol S b := by unfold icol; split <;> simp
theorem icol_zero {S : Nat → Prop} {b : Nat} : icol S b = 0 ↔ S b := by unfold icol; split <;> simp_all
/-- What is known of an operation's value. -/
abbrev Fact := Value → World → Col → Prop
def Stable (c : Nat) (Φ : Fact) : Prop := ∀ v w w' g g', w.heap.size ≤ w'.heap.size → (∀ k, k < w.heap.size → g' k = g k) → (∀ k, k < w.heap.size → (g k = 0 ∨ g k = c) → w'.heap[k]? = w.heap[k]?) → Φ v w g → Φ v w' g'

/-- It is known outright, or a fact is known of it. -/
inductive Fct where
  | is (u : Value)
  | of (Φ : Fact)
def Fct.h : Fct → Fact
  | .is u => fun v _ _ => v = u
  | .of Φ => Φ
/-- An operation's (or what is there before): its colour, what it uses, what it uses up, what is known of its value. -/
structure En where
  c : Nat
  use : List Nat
  eats : List Nat
  F : Fct
def En.Φ (e : En) : Fact := e.F.h

/-- The frozen blocks. -/
def Ice (w : World) (g : Col) (b : Nat) : Prop := b < w.heap.size ∧ g b = 0

theorem Fr0.ice {w0 w : World} {S : Nat → Prop} {g : Col} (h : Fr0 w0 w (icol S) g) {b : Nat} (hb : Ice w g b) : S b ∨ (w0.heap.size ≤ b ∧ b < w.heap.size) := by
  rcases Nat.lt_or_ge b w0.heap.size with hlt | hge
  · exact .inl (icol_zero.1 ((h.col b hlt).symm.trans hb.2))
  · exact .inr ⟨hge, hb.1⟩
theorem stable_val (c : Nat) (u : Value) : Stable c (fun v _ _ => v = u) := fun _ _ _ _ _ _ _ _ h => h
theorem stable_R (c : Nat) (t : T) : Stable c (fun v w g => R w (Ice w g) t v) := fun v w w' g g' hs hg hb h =>
  h.mono (fun k hk => ⟨Nat.lt_of_lt_of_le hk.1 hs, (hg k hk.1).trans hk.2⟩) (fun k hk => hb k hk.1 (.inl hk.2))
theorem stable_Rs (c : Nat) (ts : List T) : Stable c (fun v w g => Rs w (Ice w g) ts (vcs v)) := fun v w w' g g' hs hg hb h =>
  h.mono (fun k hk => ⟨Nat.lt_of_lt_of_le hk.1 hs, (hg k hk.1).trans hk.2⟩) (fun k hk => hb k hk.1 (.inl hk.2))
theorem stable_and {c : Nat} {Φ Ψ : Fact} (h : Stable c Φ) (k : Stable c Ψ) : Stable c (fun v w g => Φ v w g ∧ Ψ v w g) := fun v w w' g g' hs hg hb hh => ⟨h v w w' g g' hs hg hb hh.1, k v w w' g g' hs hg hb hh.2⟩
/-- A row that is still written. -/
def OwnC (base e k n c : Nat) (ts : List T) : Fact := fun v w g => Own w base (Ice w g) e k v n ts ∧ ∀ b, v.ownBlock = some b → g b = c
theorem stable_own (base e k n c : Nat) (ts : List T) : Stable c (OwnC base e k n c ts) := fun v w w' g g' hs hg hb ⟨h, hc⟩ => by
  have hlt := h.lt
  have h1 : Own w' base (Ice w g) e k v n ts := h.keep (fun b hb' => hb b hb'.1 (.inl hb'.2)) (fun b hb' => hb b (hlt b hb').2 (.inr (hc b hb')))
  refine ⟨h1.wide (fun b hb' => ⟨Nat.lt_of_lt_of_le hb'.1 hs, (hg b hb'.1).trans hb'.2⟩) (fun b hb' hi => ?_), fun b hb' => (hg b (hlt b hb').2).trans (hc b hb')⟩
  have h2 := (hlt b hb').2
  exact h.apart b hb' ⟨h2, (hg b h2).symm.trans hi.2⟩

/-! ### What waits for what -/
def dep (ops : Array Oper) : Nat → Nat → Nat → Bool
  | 0, _, _ => false
  | f + 1, i, j => match ops[i]? with
    | none => false
    | some o => o.after.any fun e => Region.binds .any e && (Nat.beq e.on j || dep ops f e.on j)
def dst (ops : Array Oper) (n j : Nat) : Option Nat := match Nat.blt j n with
  | true => (ops[j]?).bind (·.dst)
  | false => none

/-- What is to hold of the plan: checked by the kernel. -/
def drB (N : Nat) (ops : Array Oper) (n : Nat) (plan : List (Nat × List Nat × List Nat)) : Bool :=
  Nat.ble n plan.length && Nat.ble n ops.size
  && ((List.range n).all fun i => match ops[i]? with
    | none => false
    | some o => o.after.all fun e => !Region.binds .any e || Nat.blt e.on i)
  && ((List.range n).all fun i => match dst ops n i with
    | none => true
    | some d => Nat.ble (d + 1) N && (List.range n).all fun j => Nat.beq i j || !(dst ops n j == some d))
  && (plan.zipIdx.all fun (p, i) => Nat.ble n i || (Nat.blt p.1 9 &&
      (p.2.1.all fun j => (Nat.ble n j && Nat.blt j plan.length || Nat.blt j n && dep ops n i j) && plan.zipIdx.all fun (q, k) => Nat.beq k i || Nat.ble n k || !q.2.2.contains j || dep ops n k i)
      && (Nat.beq p.1 0 || plan.zipIdx.all fun (q, j) => Nat.beq i j || !Nat.beq q.1 p.1 || p.2.2.contains j || (Nat.blt j n && dep ops n j i) || plan.zipIdx.any fun (r, k) => Nat.blt k n && r.2.2.contains j && dep ops n i k)))

section
variable {N : Nm} {P : Program} {Q : Exit → Act → World → Prop} {w0 : World} {g0 : Col} {l0 : L} {ops : Array Oper} {n : Nat}

theorem dep_listed {listed : Array Bool} (hcl : ∀ j oj, ops[j]? = some oj → listed.getD j false = true → ∀ e ∈ oj.after, Region.binds .any e = true → listed.getD e.on false = true) :
    ∀ (f i j : Nat) (o : Oper), ops[i]? = some o → (∀ e ∈ o.after, Region.binds .any e = true → listed.getD e.on false = true) → dep ops f i j = true → listed.getD j false = true
  | 0, _, _, _, _, _, h => by simp [dep] at h
  | f + 1, i, j, o, ho, hall, h => by
    simp only [dep, ho] at h
    obtain ⟨e, he, hb⟩ := Array.any_eq_true'.1 h
    simp only [Bool.and_eq_true, Bool.or_eq_true] at hb
    have hl := hall e he hb.1
    rcases hb.2 with h1 | h1
    · rw [← Nat.eq_of_beq_eq_true h1]; exact hl
    · cases f with
      | zero => simp [dep] at h1
      | succ f =>
        cases ho' : ops[e.on]? with
        | none => simp [dep, ho'] at h1
        | some o' => exact dep_listed hcl (f + 1) e.on j o' ho' (hcl _ _ ho' hl) h1

/-- The values of what is used, one by one. -/
def Us (ops : Array Oper) (n : Nat) (plan : List En) (w : World) (g : Col) : List Nat → (L → Prop) → Prop
  | [], k => k []
  | j :: js, k => match plan[j]? with
    | none => True
    | some e => match dst ops n j, e.F with
      | some d, .is u => Us ops n plan w g js fun l => k ((d, true, u) :: l)
      | some d, .of Φ => ∀ v, Φ v w g → Us ops n plan w g js fun l => k ((d, true, v) :: l)
      | none, .is _ => Us ops n plan w g js k
      | none, .of Φ => Φ undef w g → Us ops n plan w g js k

/-- Each operation's proof. -/
def DS (N : Nm) (P : Program) (ops : Array Oper) (n : Nat) (Q : Exit → Act → World → Prop) (w0 : World) (g0 : Col) (l0 : L) (plan : List En) : List En → List Oper → Prop
  | e :: es, o :: os => (∀ w g, Fr0 w0 w g0 g → Us ops n plan w g e.use fun lu => ∀ (full : L) (K : Act → World → Prop),
      (∀ v w' g', Fr e.c w w' g g' → e.Φ v w' g' → match o.dst with
        | some d => KC N K ((d, true, v) :: (lu ++ (l0 ++ full))) w'
        | none => v = undef → KC N K (lu ++ (l0 ++ full)) w') → W N P ops Q K [o] (lu ++ (l0 ++ full)) w) ∧ DS N P ops n Q w0 g0 l0 plan es os
  | _, _ => True

theorem DS.at {plan : List En} : ∀ {es : List En} {os : List Oper} (h : DS N P ops n Q w0 g0 l0 plan es os) (i : Nat) {e : En} {o : Oper}, es[i]? = some e → os[i]? = some o →
    ∀ w g, Fr0 w0 w g0 g → Us ops n plan w g e.use fun lu => ∀ (full : L) (K : Act → World → Prop),
      (∀ v w' g', Fr e.c w w' g g' → e.Φ v w' g' → match o.dst with
        | some d => KC N K ((d, true, v) :: (lu ++ (l0 ++ full))) w'
        | none => v = undef → KC N K (lu ++ (l0 ++ full)) w') → W N P ops Q K [o] (lu ++ (l0 ++ full)) w
  | [], _, _, _, _, _, he, _ => by simp at he
  | _ :: _, [], _, _, _, _, _, ho => by simp at ho
  | e' :: es, o' :: os, h, 0, e, o, he, ho => by
    simp only [List.getElem?_cons_zero, Option.some.injEq] at he ho
    subst he; subst ho
    exact h.1
  | e' :: es, o' :: os, h, i + 1, e, o, he, ho => DS.at h.2 i (by simpa using he) (by simpa using ho)

/-- The value that a resource has. -/
def rv (ops : Array Oper) (n : Nat) (a : Act) (j : Nat) : Value := match dst ops n j with
  | some d => a.tmps.getD d undef
  | none => undef

theorem Us.use {plan : List En} {w : World} {g : Col} {a : Act} : ∀ (js : List Nat) (k : L → Prop), Us ops n plan w g js k →
    (∀ j ∈ js, ∃ e, plan[j]? = some e ∧ e.Φ (rv ops n a j) w g) →
    ∃ l : L, k l ∧ ∀ i c v, lk l i = some (c, v) → a.tmps.getD i undef = bif c then v else undef
  | [], k, h, _ => ⟨[], h, fun i c v hv => by simp [lk] at hv⟩
  | j :: js, k, h, hall => by
    obtain ⟨e, he, hΦ⟩ := hall j (by simp)
    simp only [Us, he] at h
    unfold rv at hΦ
    unfold En.Φ at hΦ
    cases hd : dst ops n j with
    | none =>
      cases hF : e.F with
      | is u =>
        simp only [hd, hF] at h
        exact Us.use js k h fun j' hj' => hall j' (by simp [hj'])
      | of Φ =>
        simp only [hd, hF, Fct.h] at h hΦ
        exact Us.use js k (h hΦ) fun j' hj' => hall j' (by simp [hj'])
    | some d =>
      have key : ∃ u, a.tmps.getD d undef = u ∧ Us ops n plan w g js fun l => k ((d, true, u) :: l) := by
        cases hF : e.F with
        | is u =>
          simp only [hd, hF, Fct.h] at h hΦ
          exact ⟨u, hΦ, h⟩
        | of Φ =>
          simp only [hd, hF, Fct.h] at h hΦ
          exact ⟨_, rfl, h _ hΦ⟩
      obtain ⟨u, hu, h⟩ := key
      obtain ⟨l, hl, hlk⟩ := Us.use js _ h fun j' hj' => hall j' (by simp [hj'])
      refine ⟨_, hl, fun i c v hv => ?_⟩
      simp only [lk] at hv
      split at hv
      · rename_i hb
        have : d = i := Nat.eq_of_beq_eq_true hb
        subst this
        simp only [Option.some.injEq, Prod.mk.injEq] at hv
        rw [← hv.1, ← hv.2, hu]; rfl
      · exact hlk i c v hv

/-- All slots as they are. -/
def fullL (a : Act) : L := (List.range a.tmps.size).map fun t => (t, true, a.tmps.getD t undef)
theorem lk_map (f : Nat → Value) : ∀ (ts : List Nat) (i : Nat), lk (ts.map fun t => (t, true, f t)) i = if i ∈ ts then some (true, f i) else none
  | [], i => by simp [lk]
  | t :: ts, i => by
    simp only [List.map_cons, lk]
    split
    · rename_i hb
      have : t = i := Nat.eq_of_beq_eq_true hb
      subst this
      simp
    · rename_i hb
      have hne : i ≠ t := fun e => by subst e; simp at hb
      rw [lk_map f ts i]
      simp [hne]
theorem lk_full (a : Act) (i : Nat) (hi : i < a.tmps.size) : lk (fullL a) i = some (true, a.tmps.getD i undef) := by
  unfold fullL
  rw [lk_map (fun t => a.tmps.getD t undef)]
  simp [hi]
theorem lk_full_sound (a : Act) (i : Nat) (c : Bool) (v : Value) (h : lk (fullL a) i = some (c, v)) : a.tmps.getD i undef = bif c then v else undef := by
  unfold fullL at h
  rw [lk_map (fun t => a.tmps.getD t undef)] at h
  split at h
  · simp only [Option.some.injEq, Prod.mk.injEq] at h
    rw [← h.1, ← h.2]; rfl
  · cases h
theorem lk_append (l l' : L) (i : Nat) : lk (l ++ l') i = match lk l i with | some x => some x | none => lk l' i := by
  induction l with
  | nil => simp [lk]
  | cons x l ih =>
    obtain ⟨j, c, v⟩ := x
    simp only [List.cons_append, lk]
    split <;> simp_all

/-- How many of the head have not come up. -/
def left (listed : Array Bool) (n : Nat) : Nat := (List.range n).countP fun j => !listed.getD j false
theorem left_set {listed : Array Bool} {i : Nat} (hi : i < listed.size) (hl : listed.getD i false = false) : ∀ n, i < n → left (listed.setIfInBounds i true) n + 1 = left listed n
  | 0, h => by omega
  | n + 1, h => by
    unfold left
    rw [List.range_succ, List.countP_append, List.countP_append]
    rcases Nat.lt_or_ge i n with h1 | h1
    · have := left_set hi hl n h1
      unfold left at this
      simp only [List.countP_cons, List.countP_nil, getD_set_ne false (show i ≠ n by omega)]
      omega
    · obtain rfl : i = n := by omega
      have h2 : (List.range i).countP (fun j => !(listed.setIfInBounds i true).getD j false) = (List.range i).countP fun j => !listed.getD j false := by
        apply List.countP_congr
        intro j hj
        rw [getD_set_ne false (show i ≠ j by have := List.mem_range.1 hj; omega)]
      rw [h2]
      have h3 : (listed.setIfInBounds i true).getD i false = true := by simp [hi]
      simp only [List.countP_cons, List.countP_nil, h3, hl]
      simp
theorem left_zero {listed : Array Bool} {n : Nat} (h : left listed n = 0) : ∀ j, j < n → listed.getD j false = true := by
  intro j hj
  unfold left at h
  rw [List.countP_eq_zero] at h
  have := h j (List.mem_range.2 hj)
  simpa using this
theorem left_pos {listed : Array Bool} {n : Nat} (h : left listed n ≠ 0) : ∃ j, j < n ∧ listed.getD j false = false := by
  unfold left at h
  have := List.countP_pos_iff.1 (Nat.pos_of_ne_zero h)
  obtain ⟨j, hj, hb⟩ := this
  exact ⟨j, List.mem_range.1 hj, by simpa using hb⟩

/-- The tail behind the head is one behind the other. -/
def drT (ops : Array Oper) (n : Nat) : Bool :=
  (Nat.beq n ops.size || Nat.blt n ops.size && Region.sinkB .any ops n && Region.chainB .any ops n) && Region.seqB .any ops (ops.size - n) n (List.replicate n true ++ List.replicate (ops.size - n) false).toArray
/-- What is left at the head's end is not used up. -/
def drF (ops : Array Oper) (n : Nat) (plan : List (Nat × List Nat × List Nat)) (fin : List Nat) : Bool :=
  fin.all fun j => Nat.blt j plan.length && plan.zipIdx.all fun (q, k) => Nat.ble n k || !q.2.2.contains j
/-- Slots that the head writes are not among what is known. -/
def drL (ops : Array Oper) (n : Nat) (ks : List Nat) : Bool := (List.range n).all fun i => match dst ops n i with
  | none => true
  | some d => !ks.contains d
theorem lk_cons_ne {d t : Nat} {v : Value} {l : L} {x : Option (Bool × Value)} (hne : d ≠ t) (h : lk l t = x) : lk ((d, true, v) :: l) t = x := by
  simp only [lk]
  split
  · rename_i hb; exact absurd (Nat.eq_of_beq_eq_true hb) hne
  · exact h
theorem lk_none (l : L) (d : Nat) (h : d ∉ l.map (·.1)) : lk l d = none := by
  induction l with
  | nil => rfl
  | cons x l ih =>
    obtain ⟨j, c, v⟩ := x
    simp only [List.map_cons, List.mem_cons, not_or] at h
    simp only [lk]
    split
    · rename_i hb
      exact absurd (Nat.eq_of_beq_eq_true hb).symm h.1
    · exact ih h.2

theorem dr_main {os : List Oper} {plan : List En} {ks : List Nat} {fin : List Nat} (hos : os.toArray = ops) (hB : drB N.n ops n (plan.map fun e => (e.c, e.use, e.eats)) = true) (hT : drT ops n = true)
    (hL : drL ops n ks = true) (hks : l0.map (·.1) = ks) (hst : ∀ e ∈ plan, Stable e.c e.Φ) (hDS : DS N P ops n Q w0 g0 l0 plan (plan.take n) (os.take n))
    (hF : drF ops n (plan.map fun e => (e.c, e.use, e.eats)) fin = true)
    (hend : ∀ w g, Fr0 w0 w g0 g → Us ops n plan w g fin fun lu => W N P ops Q (Q .normal) (os.drop n) (lu ++ l0) w) :
    ∀ (f : Nat) (listed : Array Bool) (a : Act) (w : World) (g : Col), HeadInv .any ops n listed → Fr0 w0 w g0 g → Ag N l0 a →
      (∀ j e, plan[j]? = some e → (n ≤ j ∨ listed.getD j false = true) → (∀ i ei, plan[i]? = some ei → i < n → listed.getD i false = true → j ∉ ei.eats) → e.Φ (rv ops n a j) w g) →
      left listed n = f → wpAny P .any ops Q (f + (ops.size - n)) listed a w := by
  unfold drB at hB
  simp only [Bool.and_eq_true] at hB
  obtain ⟨⟨⟨⟨hn1, hn2⟩, hback⟩, hdst⟩, hplan⟩ := hB
  have hn1 : n ≤ plan.length := by simpa using Nat.le_of_ble_eq_true hn1
  have hn2 : n ≤ ops.size := Nat.le_of_ble_eq_true hn2
  unfold drT at hT
  rw [Bool.and_eq_true] at hT
  have hzip : ∀ i (e : En), plan[i]? = some e → ((e.c, e.use, e.eats), i) ∈ (plan.map fun e => (e.c, e.use, e.eats)).zipIdx := fun i e he => by
    rw [List.mem_zipIdx_iff_getElem?]
    simp [he]
  intro f
  induction f with
  | zero =>
    intro listed a w g inv hFr hA hI hl
    have hall := left_zero hl
    have hle : listed = (List.replicate n true ++ List.replicate (ops.size - n) false).toArray := by
      apply Array.ext
      · simp [inv.size]; omega
      · intro i h1 h2
        have h3 : i < ops.size := by rw [← inv.size]; exact h1
        simp only [List.getElem_toArray]
        rcases Nat.lt_or_ge i n with h | h
        · rw [List.getElem_append_left (by simpa using h)]
          have := hall i h
          simp [h1] at this
          simpa using this
        · rw [List.getElem_append_right (by simpa using h)]
          have := inv.tail i h h3
          simp [h1] at this
          simpa using this
    have hos' : ∀ j, (os.drop n)[j]? = ops[n + j]? := fun j => by rw [← hos]; simp [List.getElem?_drop]
    have hlen : (os.drop n).length = ops.size - n := by rw [← hos]; simp
    rw [Nat.zero_add]
    have hfin : ∀ j ∈ fin, ∃ e, plan[j]? = some e ∧ e.Φ (rv ops n a j) w g := by
      intro j hj
      have := List.all_eq_true.1 hF j hj
      rw [Bool.and_eq_true] at this
      have hjl : j < plan.length := (by simpa using Nat.le_of_ble_eq_true this.1 : j + 1 ≤ plan.length)
      refine ⟨plan[j], by simp [hjl], hI j _ (by simp [hjl]) ?_ ?_⟩
      · rcases Nat.lt_or_ge j n with h | h
        · exact .inr (hall j h)
        · exact .inl h
      · intro i ei hi hin _ hje
        have h2 := List.all_eq_true.1 this.2 _ (hzip i ei hi)
        simp only [Bool.or_eq_true, Bool.not_eq_true', List.contains_eq_mem, decide_eq_false_iff_not] at h2
        rcases h2 with h2 | h2
        · have := Nat.le_of_ble_eq_true h2; omega
        · exact h2 hje
    obtain ⟨lu, hW, hlu⟩ := Us.use fin _ (hend w g hFr) hfin
    have hA2 : Ag N (lu ++ l0) a := ⟨hA.1, hA.2.1, fun i c v hv => by
      rw [lk_append] at hv
      split at hv
      · rename_i x hx
        simp only [Option.some.injEq] at hv
        subst hv
        exact hlu i c v hx
      · exact hA.2.2 i c v hv⟩
    unfold W at hW
    have h3 := hW a hA2
    rw [wl_eq] at h3
    have h4 := wpAny_of_seq (md := .any) (Q' := Q) (os.drop n) n listed a w hos' (by rw [hlen, hle]; exact hT.2) h3
    rwa [hlen] at h4
  | succ f ih =>
    intro listed a w g inv hFr hA hI hl
    rw [show f + 1 + (ops.size - n) = (f + (ops.size - n)) + 1 by omega]
    have hun : ∃ j, j < n ∧ listed.getD j false = false := left_pos (by omega)
    have hclosed := inv.closed
    -- a first one is ready
    have hready : Region.ready .any ops listed ≠ [] := by
      obtain ⟨j, hj, hjl⟩ := hun
      have key : ∀ m j, j ≤ m → j < n → listed.getD j false = false → ∃ i, i ∈ Region.ready .any ops listed := by
        intro m
        induction m with
        | zero =>
          intro j hjm hjn hjl
          obtain rfl : j = 0 := by omega
          have hb := List.all_eq_true.1 hback 0 (List.mem_range.2 hjn)
          split at hb
          · cases hb
          · rename_i o ho
            refine ⟨0, mem_ready.2 ⟨getD_in (by rw [inv.size]; omega) hjl, o, ho, fun e he hbd => ?_⟩⟩
            have := Array.all_eq_true'.1 hb e he
            simp [hbd, Nat.blt] at this
        | succ m ih2 =>
          intro j hjm hjn hjl
          have hb := List.all_eq_true.1 hback j (List.mem_range.2 hjn)
          split at hb
          · cases hb
          · rename_i o ho
            by_cases hex : ∃ e ∈ o.after, Region.binds .any e = true ∧ listed.getD e.on false = false
            · obtain ⟨e, he, hbd, hel⟩ := hex
              have := Array.all_eq_true'.1 hb e he
              simp only [hbd, Bool.not_true, Bool.false_or] at this
              have hlt : e.on < j := Nat.le_of_ble_eq_true this
              exact ih2 e.on (by omega) (by omega) hel
            · refine ⟨j, mem_ready.2 ⟨getD_in (by rw [inv.size]; omega) hjl, o, ho, fun e he hbd => ?_⟩⟩
              cases h : listed.getD e.on false with
              | true => rfl
              | false => exact absurd ⟨e, he, hbd, h⟩ hex
      obtain ⟨i, hi⟩ := key j j (Nat.le_refl _) hj hjl
      intro h0
      rw [h0] at hi
      cases hi
    refine ⟨fun h => absurd h hready, fun i hi => ?_⟩
    have hin : i < n := by
      rcases Nat.lt_or_ge i n with h | h
      · exact h
      · exfalso
        rw [Bool.or_eq_true] at hT
        have hisz : i < ops.size := by
          obtain ⟨_, o, ho, _⟩ := mem_ready.1 hi
          exact (Array.getElem?_eq_some_iff.1 ho).1
        rcases hT.1 with h1 | h1
        · have := Nat.eq_of_beq_eq_true h1; omega
        · simp only [Bool.and_eq_true] at h1
          obtain ⟨j, hj, hjl⟩ := hun
          exact tail_waits h1.1.2 h1.2 (Nat.le_of_ble_eq_true h1.1.1) inv _ j rfl hj (getD_in (by rw [inv.size]; omega) hjl) i h hi
    obtain ⟨hiun, oi, hoi, hafter⟩ := mem_ready.1 hi
    have hiun' : listed.getD i false = false := getD_both hiun
    have hip : i < plan.length := by omega
    obtain ⟨ei, hei⟩ : ∃ ei, plan[i]? = some ei := ⟨plan[i], by simp [hip]⟩
    have hP := List.all_eq_true.1 hplan _ (hzip i ei hei)
    simp only [Bool.or_eq_true, Bool.and_eq_true] at hP
    have hP := hP.resolve_left (fun h => by have := Nat.le_of_ble_eq_true h; omega)
    have h9 : ei.c < 9 := Nat.le_of_ble_eq_true hP.1.1
    have hP : _ ∧ _ := ⟨hP.1.2, hP.2⟩
    have hdep : ∀ j, dep ops n i j = true → listed.getD j false = true := fun j hj => dep_listed hclosed n i j oi hoi hafter hj
    have hdep2 : ∀ k, k < ops.size → listed.getD k false = true → ∀ j, dep ops n k j = true → listed.getD j false = true := fun k hk hkl j hj => by
      obtain ⟨ok, hok⟩ : ∃ ok, ops[k]? = some ok := ⟨ops[k], by simp [hk]⟩
      exact dep_listed hclosed n k j ok hok (hclosed k ok hok hkl) hj
    have huse : ∀ j ∈ ei.use, ∃ e, plan[j]? = some e ∧ e.Φ (rv ops n a j) w g := by
      intro j hj
      have h1 := List.all_eq_true.1 hP.1 j hj
      simp only [Bool.and_eq_true, Bool.or_eq_true] at h1
      have hjl : j < plan.length := by
        rcases h1.1 with h | h
        · exact (by simpa using Nat.le_of_ble_eq_true h.2 : j + 1 ≤ plan.length)
        · have := Nat.le_of_ble_eq_true h.1; omega
      refine ⟨plan[j], by simp [hjl], hI j _ (by simp [hjl]) ?_ ?_⟩
      · rcases h1.1 with h | h
        · exact .inl (Nat.le_of_ble_eq_true h.1)
        · exact .inr (hdep j h.2)
      · intro k ek hk hkn hkl hje
        have h2 := List.all_eq_true.1 h1.2 _ (hzip k ek hk)
        simp only [Bool.or_eq_true, Bool.not_eq_true', List.contains_eq_mem, decide_eq_false_iff_not] at h2
        rcases h2 with ((h2 | h2) | h2) | h2
        · have := Nat.eq_of_beq_eq_true h2
          subst this
          rw [hiun'] at hkl
          cases hkl
        · have := Nat.le_of_ble_eq_true h2; omega
        · exact h2 hje
        · have := hdep2 k (by omega) hkl i h2
          rw [hiun'] at this
          cases this
    have hoi' : (os.take n)[i]? = some oi := by rw [List.getElem?_take, if_pos hin, ← List.getElem?_toArray, hos]; exact hoi
    have hei' : (plan.take n)[i]? = some ei := by rw [List.getElem?_take, if_pos hin]; exact hei
    obtain ⟨lu, hW, hlu⟩ := Us.use ei.use _ (DS.at hDS i hei' hoi' w g hFr) huse
    -- the slots of a
    have hAf : Ag N (lu ++ (l0 ++ fullL a)) a := ⟨hA.1, hA.2.1, fun t c v hv => by
      rw [lk_append] at hv
      split at hv
      · rename_i x hx
        simp only [Option.some.injEq] at hv
        subst hv
        exact hlu t c v hx
      · rw [lk_append] at hv
        split at hv
        · rename_i x hx
          simp only [Option.some.injEq] at hv
          subst hv
          exact hA.2.2 t c v hx
        · exact lk_full_sound a t c v hv⟩
    have hsome : ∀ t, t < a.tmps.size → ∃ c v, lk (lu ++ (l0 ++ fullL a)) t = some (c, v) := fun t ht => by
      rw [lk_append]
      split
      · rename_i x hx
        exact ⟨_, _, rfl⟩
      · rw [lk_append]
        split
        · exact ⟨_, _, rfl⟩
        · exact ⟨_, _, lk_full a t ht⟩
    have inv' := inv.set hi hin
    have hisz : i < listed.size := by rw [inv.size]; omega
    have hdsti : ∀ d, dst ops n i = some d → d < N.n ∧ ∀ j, j < n → j ≠ i → dst ops n j ≠ some d := fun d hd => by
      have h1 := List.all_eq_true.1 hdst i (List.mem_range.2 hin)
      rw [hd] at h1
      simp only [Bool.and_eq_true] at h1
      refine ⟨Nat.le_of_ble_eq_true h1.1, fun j hj hji hjd => ?_⟩
      have h2 := List.all_eq_true.1 h1.2 j (List.mem_range.2 hj)
      simp only [Bool.or_eq_true, Bool.not_eq_true', beq_eq_false_iff_ne] at h2
      rcases h2 with h2 | h2
      · exact hji (Nat.eq_of_beq_eq_true h2).symm
      · exact h2 hjd
    have hdlt : ∀ j d, j < n → dst ops n j = some d → d < N.n := fun j d hj hd => by
      have h1 := List.all_eq_true.1 hdst j (List.mem_range.2 hj)
      rw [hd] at h1
      simp only [Bool.and_eq_true] at h1
      exact Nat.le_of_ble_eq_true h1.1
    have hnog : ∀ j d, dst ops n j = some d → j < n := fun j d hd => by
      unfold dst at hd
      split at hd
      · rename_i h; exact Nat.le_of_ble_eq_true h
      · cases hd
    -- the new state
    have hnew : ∀ v w' g' (a' : Act), Fr ei.c w w' g g' → ei.Φ v w' g' → (∀ d, dst ops n i = some d → a'.tmps.getD d undef = v) → (dst ops n i = none → v = undef) →
        a'.defers = N.ds → N.n ≤ a'.tmps.size → (∀ t c u, dst ops n i ≠ some t → lk (lu ++ (l0 ++ fullL a)) t = some (c, u) → a'.tmps.getD t undef = a.tmps.getD t undef) → wpAny P .any ops Q (f + (ops.size - n)) (listed.setIfInBounds i true) a' w' := by
      intro v w' g' a' hfr hΦ hd hdn hdef hsz hsame
      refine ih _ a' w' g' inv' (hFr.step hfr h9) ⟨hdef, hsz, fun t c u hu => ?_⟩ ?_ ?_
      · have hne : dst ops n i ≠ some t := fun hdi => by
          have h1 := List.all_eq_true.1 hL i (List.mem_range.2 hin)
          rw [hdi] at h1
          simp only [Bool.not_eq_true', List.contains_eq_mem, decide_eq_false_iff_not] at h1
          rw [lk_none l0 t (by rw [hks]; exact h1)] at hu
          cases hu
        have h2 := hA.2.2 t c u hu
        obtain ⟨c', u', hcu⟩ : ∃ c' u', lk (lu ++ (l0 ++ fullL a)) t = some (c', u') := by
          rw [lk_append]
          split
          · exact ⟨_, _, rfl⟩
          · rw [lk_append, hu]; exact ⟨_, _, rfl⟩
        rw [hsame t c' u' hne hcu]; exact h2
      · intro j e hj hlj hne
        by_cases hji : j = i
        · subst hji
          have : e = ei := Option.some.inj (hj.symm.trans hei)
          subst this
          have : rv ops n a' j = v := by
            unfold rv
            split
            · rename_i d hd'
              exact hd d hd'
            · rename_i hd'
              exact (hdn hd').symm
          rw [this]; exact hΦ
        · have hlj' : n ≤ j ∨ listed.getD j false = true := by
            rcases hlj with h | h
            · exact .inl h
            · rw [getD_set_ne false (Ne.symm hji)] at h; exact .inr h
          have hne' : ∀ k ek, plan[k]? = some ek → k < n → listed.getD k false = true → j ∉ ek.eats := fun k ek hk hkn hkl => hne k ek hk hkn (getD_set_true hkl)
          have hnei : j ∉ ei.eats := hne i ei hei hin (by simp [hisz])
          have hold := hI j e hj hlj' hne'
          have hrv : rv ops n a' j = rv ops n a j := by
            unfold rv
            split
            · rename_i d hd'
              have hjn := hnog j d hd'
              have hdN := hdlt j d hjn hd'
              obtain ⟨c', u', hcu⟩ := hsome d (by have := hA.2.1; omega)
              exact hsame d c' u' (fun e => (hdsti d e).2 j hjn hji hd') hcu
            · rfl
          rw [hrv]
          have hst' := hst e (List.mem_of_getElem? hj)
          refine hst' _ w w' g g' hfr.size hfr.col (fun k hk hcol => hfr.block k hk ?_) hold
          have h3 := hP.2
          rcases h3 with h3 | h3
          · exact .inl (Nat.eq_of_beq_eq_true h3)
          · have h4 := List.all_eq_true.1 h3 _ (hzip j e hj)
            simp only [Bool.or_eq_true, Bool.and_eq_true, Bool.not_eq_true', List.contains_eq_mem, decide_eq_true_eq] at h4
            rcases h4 with (((h4 | h4) | h4) | h4) | h4
            · exact absurd (Nat.eq_of_beq_eq_true h4).symm hji
            · by_cases h0 : ei.c = 0
              · exact .inl h0
              · refine .inr fun he => ?_
                rcases hcol with hcol | hcol
                · exact h0 (he.symm.trans hcol)
                · have : e.c = ei.c := hcol.symm.trans he
                  rw [this] at h4
                  simp at h4
            · exact absurd h4 hnei
            · exfalso
              have hjn : j < n := Nat.le_of_ble_eq_true h4.1
              have hjl := hlj'.resolve_left (by omega)
              have := hdep2 j (by omega) hjl i h4.2
              rw [hiun'] at this
              cases this
            · exfalso
              obtain ⟨⟨r, k⟩, hrk, h5⟩ := List.any_eq_true.1 h4
              simp only [Bool.and_eq_true, List.contains_eq_mem, decide_eq_true_eq] at h5
              rw [List.mem_zipIdx_iff_getElem?] at hrk
              simp only [List.getElem?_map] at hrk
              obtain ⟨ek, hek, hrr⟩ := Option.map_eq_some_iff.1 hrk
              have hkn : k < n := Nat.le_of_ble_eq_true h5.1.1
              refine hne' k ek hek hkn (hdep k h5.2) ?_
              rw [← hrr] at h5
              exact h5.1.2
      · have := left_set hisz hiun' n hin
        omega
    have hWW := hW (fullL a) (fun a' w' => wpAny P .any ops Q (f + (ops.size - n)) (listed.setIfInBounds i true) a' w') (by
      intro v w' g' hfr hΦ
      have hdd : dst ops n i = oi.dst := by
        unfold dst
        rw [hoi, show Nat.blt i n = true from Nat.ble_eq_true_of_le hin]; rfl
      split
      · rename_i d hd
        unfold KC
        intro a' hA'
        refine hnew v w' g' a' hfr hΦ (fun d' hd' => ?_) (fun h => ?_) hA'.1 hA'.2.1 (fun t c u ht hcu => ?_)
        · rw [hdd, hd] at hd'
          injection hd' with hd'
          subst hd'
          exact hA'.2.2 d true v (by simp [lk])
        · rw [hdd, hd] at h; cases h
        · have hne : d ≠ t := fun e => by subst e; exact ht (hdd.trans hd)
          rw [hA'.2.2 t c u (lk_cons_ne hne hcu), hAf.2.2 t c u hcu]
      · rename_i hd
        intro hv
        unfold KC
        intro a' hA'
        refine hnew v w' g' a' hfr hΦ (fun d' hd' => ?_) (fun _ => hv) hA'.1 hA'.2.1 (fun t c u ht hcu => ?_)
        · rw [hdd, hd] at hd'; cases hd'
        · rw [hA'.2.2 t c u hcu, hAf.2.2 t c u hcu])
    unfold W at hWW
    have h6 := hWW a hAf
    simp only [wl] at h6
    unfold wpOp
    simp only [hoi]
    exact h6

def Sts : List En → Prop
  | [] => True
  | e :: es => Stable e.c e.Φ ∧ Sts es
theorem Sts.all : ∀ {es : List En}, Sts es → ∀ e ∈ es, Stable e.c e.Φ
  | [], _, e, he => by cases he
  | e' :: es, h, e, he => by
    rcases List.mem_cons.1 he with rfl | he
    · exact h.1
    · exact Sts.all h.2 e he
/-- What is there before. -/
def Ghs (w : World) (g : Col) : List En → Prop
  | [] => True
  | e :: es => e.Φ undef w g ∧ Ghs w g es
theorem Ghs.at {w : World} {g : Col} : ∀ {es : List En}, Ghs w g es → ∀ e ∈ es, e.Φ undef w g
  | [], _, e, he => by cases he
  | e' :: es, h, e, he => by
    rcases List.mem_cons.1 he with rfl | he
    · exact h.1
    · exact Ghs.at h.2 e he
theorem DS.cons {plan : List En} {e : En} {es : List En} {o : Oper} {os : List Oper} (h : ∀ w g, Fr0 w0 w g0 g → Us ops n plan w g e.use fun lu => ∀ (full : L) (K : Act → World → Prop),
      (∀ v w' g', Fr e.c w w' g g' → e.Φ v w' g' → match o.dst with
        | some d => KC N K ((d, true, v) :: (lu ++ (l0 ++ full))) w'
        | none => v = undef → KC N K (lu ++ (l0 ++ full)) w') → W N P ops Q K [o] (lu ++ (l0 ++ full)) w) (h2 : DS N P ops n Q w0 g0 l0 plan es os) : DS N P ops n Q w0 g0 l0 plan (e :: es) (o :: os) := ⟨h, h2⟩
theorem DS.nil {plan : List En} {os : List Oper} : DS N P ops n Q w0 g0 l0 plan [] os := by unfold DS; trivial

theorem rv_ghost {a : Act} {j : Nat} (h : n ≤ j) : rv ops n a j = undef := by
  unfold rv dst
  rw [show Nat.blt j n = false from by rw [Bool.eq_false_iff]; intro hb; have := Nat.le_of_ble_eq_true hb; omega]

def mkPlan : List (Nat × List Nat × List Nat) → List Fct → List En
  | p :: ps, Φ :: fs => ⟨p.1, p.2.1, p.2.2, Φ⟩ :: mkPlan ps fs
  | _, _ => []
theorem mkPlan_shape : ∀ (sh : List (Nat × List Nat × List Nat)) (fs : List Fct), sh.length = fs.length → (mkPlan sh fs).map (fun e => (e.c, e.use, e.eats)) = sh
  | [], [], _ => rfl
  | [], _ :: _, h => by simp at h
  | _ :: _, [], h => by simp at h
  | p :: ps, Φ :: fs, h => by
    simp only [mkPlan, List.map_cons]
    rw [mkPlan_shape ps fs (by simpa using h)]
/-- **A region that draws its order**: n operations in whatever order, the others behind. -/
theorem WC.dr {id : Nat} {os : List Oper} {l : L} {w : World} (n : Nat) (ks : List Nat) (sh : List (Nat × List Nat × List Nat)) (fs : List Fct) (fin : List Nat) (g0 : Col) (hm : P.follows .mixedOrders = true) (hk : Go.Ag.keep l ks = l0) (hks : l0.map (·.1) = ks)
    (hB : drB N.n os.toArray n sh = true) (hT : drT os.toArray n = true) (hL : drL os.toArray n ks = true) (hF : drF os.toArray n sh fin = true) (hsh : sh.length = fs.length)
    (hst : Sts (mkPlan sh fs)) (hgh : Ghs w g0 ((mkPlan sh fs).drop n)) (hDS : DS N P os.toArray n Q w g0 l0 (mkPlan sh fs) ((mkPlan sh fs).take n) (os.take n))
    (hend : ∀ w' g, Fr0 w w' g0 g → Us os.toArray n (mkPlan sh fs) w' g fin fun lu => W N P os.toArray Q (Q .normal) (os.drop n) (lu ++ l0) w') :
    WC N P (.region id os.toArray true) Q l w := by
  unfold WC
  intro a ha
  refine wp_region_any hm ?_
  have hshape := mkPlan_shape sh fs hsh
  generalize mkPlan sh fs = plan at hshape hst hgh hDS hend
  subst hshape
  have hA : Ag N l0 a := by rw [← hk]; exact ha.sub (lk_keep l ks)
  have hn : n ≤ os.toArray.size := by
    unfold drB at hB
    simp only [Bool.and_eq_true] at hB
    exact Nat.le_of_ble_eq_true hB.1.1.1.2
  have inv0 : HeadInv .any os.toArray n (Array.replicate os.toArray.size false) :=
    ⟨by simp, fun j oj _ hl => (by rw [getD_replicate_false] at hl; cases hl), fun t _ ht => getD_in (by simpa using ht) (getD_replicate_false _ _)⟩
  have hl : left (Array.replicate os.toArray.size false) n = n := by
    unfold left
    rw [List.countP_eq_length.2]
    · simp
    · intro j _
      rw [getD_replicate_false]; rfl
  have := dr_main (P := P) (Q := Q) (w0 := w) (g0 := g0) (l0 := l0) rfl hB hT hL hks hst.all hDS hF hend n _ a { w with drawn := w.drawn + 1 } g0 inv0
    ⟨rfl, rfl, rfl, Nat.le_refl _, fun _ _ => rfl, fun _ _ _ => rfl⟩ hA (fun j e hj hlj _ => by
      have hjn : n ≤ j := by
        rcases hlj with h | h
        · exact h
        · rw [getD_replicate_false] at h; cases h
      rw [rv_ghost hjn]
      have h1 := hgh.at e (by
        have : (plan.drop n)[j - n]? = some e := by rw [List.getElem?_drop, show n + (j - n) = j by omega]; exact hj
        exact List.mem_of_getElem? this)
      exact hst.all e (List.mem_of_getElem? hj) _ w _ g0 g0 (Nat.le_refl _) (fun _ _ => rfl) (fun _ _ _ => rfl) h1) hl
  rw [show n + (os.toArray.size - n) = os.toArray.size by omega] at this
  exact this
end
end Go.Ag
