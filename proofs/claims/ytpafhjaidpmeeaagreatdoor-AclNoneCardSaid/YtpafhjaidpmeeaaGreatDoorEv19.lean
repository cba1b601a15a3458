/- Words of this claim: a region that draws its order: the evaluator's plan. -/
import Derived.Test.YtpafhjaidpmeeaaGreatDoorEv18
set_option linter.unusedVariables false
set_option linter.unusedSimpArgs false
namespace Go.Ev
open Go.RowKit

/-! ### Are two values the same? -/
def nEqO : Option Nat → Option Nat → Bool
  | none, none => true
  | some a, some b => Nat.beq a b
  | _, _ => false
mutual
def avEq : AV → AV → Bool
  | .bool a, .bool b => a == b
  | .int j a, .int k b => kEq j k && eqI a b
  | .str a, .str b => eqL a b
  | .ptrN, .ptrN => true
  | .ptr a b c, .ptr x y z => Nat.beq a x && Nat.beq b y && Nat.beq c z
  | .slN, .slN => true
  | .sl a b c d e f, .sl u v w x y z => Nat.beq a u && Nat.beq b v && Nat.beq c w && Nat.beq d x && nEqO e y && Nat.beq f z
  | .slE, .slE => true
  | .mapN, .mapN => true
  | .map a, .map b => Nat.beq a b
  | .fnN, .fnN => true
  | .fn f a, .fn g b => Nat.beq f g && avsEq a b
  | .yld a, .yld b => Nat.beq a b
  | .ifN, .ifN => true
  | .iface t a, .iface u b => Nat.beq t u && avEq a b
  | .agg a, .agg b => avsEq a b
  | .tup a, .tup b => avsEq a b
  | _, _ => false
def avsEq : List AV → List AV → Bool
  | [], [] => true
  | a :: x, b :: y => avEq a b && avsEq x y
  | _, _ => false
end
theorem nEqO_ok {a b : Option Nat} (h : nEqO a b = true) : a = b := by
  cases a <;> cases b <;> simp_all [nEqO]
mutual
theorem avEq_ok : ∀ {a b : AV}, avEq a b = true → a = b
  | .bool a, b, h => by cases b <;> simp only [avEq] at h <;> first | (cases h; done) | (rw [eq_of_beq h])
  | .int j a, b, h => by
    cases b <;> simp only [avEq] at h <;> first | (cases h; done) | skip
    rw [Bool.and_eq_true, eqI_eq] at h
    rw [kEq_eq h.1, eq_of_beq h.2]
  | .str a, b, h => by cases b <;> simp only [avEq] at h <;> first | (cases h; done) | (rw [eqL_eq.1 h])
  | .ptrN, b, h => by cases b <;> simp only [avEq] at h <;> first | (cases h; done) | rfl
  | .ptr _ _ _, b, h => by
    cases b <;> simp only [avEq] at h <;> first | (cases h; done) | skip
    simp only [Bool.and_eq_true, Nat.beq_eq] at h
    obtain ⟨⟨rfl, rfl⟩, rfl⟩ := h; rfl
  | .slN, b, h => by cases b <;> simp only [avEq] at h <;> first | (cases h; done) | rfl
  | .sl _ _ _ _ _ _, b, h => by
    cases b <;> simp only [avEq] at h <;> first | (cases h; done) | skip
    simp only [Bool.and_eq_true, Nat.beq_eq] at h
    obtain ⟨⟨⟨⟨⟨rfl, rfl⟩, rfl⟩, rfl⟩, h5⟩, rfl⟩ := h
    rw [nEqO_ok h5]
  | .slE, b, h => by cases b <;> simp only [avEq] at h <;> first | (cases h; done) | rfl
  | .mapN, b, h => by cases b <;> simp only [avEq] at h <;> first | (cases h; done) | rfl
  | .map _, b, h => by
    cases b <;> simp only [avEq] at h <;> first | (cases h; done) | skip
    simp only [Nat.beq_eq] at h; subst h; rfl
  | .fnN, b, h => by cases b <;> simp only [avEq] at h <;> first | (cases h; done) | rfl
  | .fn _ _, b, h => by
    cases b <;> simp only [avEq] at h <;> first | (cases h; done) | skip
    simp only [Bool.and_eq_true, Nat.beq_eq] at h
    obtain ⟨rfl, h2⟩ := h
    rw [avsEq_ok h2]
  | .yld _, b, h => by
    cases b <;> simp only [avEq] at h <;> first | (cases h; done) | skip
    simp only [Nat.beq_eq] at h; subst h; rfl
  | .ifN, b, h => by cases b <;> simp only [avEq] at h <;> first | (cases h; done) | rfl
  | .iface _ _, b, h => by
    cases b <;> simp only [avEq] at h <;> first | (cases h; done) | skip
    simp only [Bool.and_eq_true, Nat.beq_eq] at h
    obtain ⟨rfl, h2⟩ := h
    rw [avEq_ok h2]
  | .agg _, b, h => by
    cases b <;> simp only [avEq] at h <;> first | (cases h; done) | (rw [avsEq_ok h])
  | .tup _, b, h => by
    cases b <;> simp only [avEq] at h <;> first | (cases h; done) | (rw [avsEq_ok h])
theorem avsEq_ok : ∀ {a b : List AV}, avsEq a b = true → a = b
  | [], [], _ => rfl
  | [], _ :: _, h => by simp [avsEq] at h
  | _ :: _, [], h => by simp [avsEq] at h
  | a :: x, b :: y, h => by
    simp only [avsEq, Bool.and_eq_true] at h
    rw [avEq_ok h.1, avsEq_ok h.2]
end

/-! ### Kinds of operations -/
inductive OK3 where
  | read
  | new
  | eff
def kind3 : Op → OK3
  | .load _ _ => .read
  | .lookup _ _ _ _ => .read
  | .convert _ _ _ => .read
  | .call ⟨.builtin .len, _, _⟩ => .read
  | .alloc _ => .new
  | .box _ _ => .new
  | .buildSlice _ _ _ => .new
  | .makeSlice _ _ _ => .new
  | .makeMap _ _ => .new
  | _ => .eff
def evRd (g : Pg) (s : Sl) (h : H) (o : Op) : Option AV := match o with
  | .load t x => match opd g.G s x with
    | some a => aLoad g.T h t a
    | none => none
  | .lookup t x y ok => match opd g.G s x, opd g.G s y with
    | some a, some b => aLookup g.T h t a b ok
    | _, _ => none
  | .convert f d x => match opd g.G s x with
    | some a => aBytesStr g.T h f d a
    | none => none
  | .call ⟨.builtin .len, ⟨[x]⟩, ⟨[t]⟩⟩ => match opd g.G s x with
    | some a => aLenMap g.T h t a
    | none => none
  | _ => none
theorem evRd_evO {g : Pg} {s : Sl} {h : H} {o : Op} {v : AV} (hP : evP g.G g.T s o = none) (k : evRd g s h o = some v) : evO g s h o = some (.val v h) := by
  unfold evO
  rw [hP]
  simp only
  unfold evRd at k
  split at k
  · simp only [evM]
    split at k
    · rename_i hq; rw [hq]; simp only; rw [k]; rfl
    · cases k
  · simp only [evM]
    split at k
    · rename_i h1 h2; rw [h1, h2]; simp only; rw [k]; rfl
    · cases k
  · simp only [evM]
    split at k
    · rename_i hq; rw [hq]; simp only; rw [k]; rfl
    · cases k
  · simp only [evM]
    split at k
    · rename_i hq; rw [hq]; simp only; rw [k]; rfl
    · cases k
  · cases k
def evNw (g : Pg) (s : Sl) (q : Nat) (o : Op) : Option (AV × OB) := match o with
  | .alloc t => aAlloc g.T q t
  | .box t x => match opd g.G s x with
    | some a => some (aBox q t a)
    | none => none
  | .buildSlice t n ⟨ps⟩ => match prts g.G s ps with
    | some as => aBuildSlice g.T q t n as
    | none => none
  | .makeSlice t x y => match opd g.G s x, opd g.G s y with
    | some a, some b => aMakeSlice g.T q t a b
    | _, _ => none
  | .makeMap _ none => some (.map q, .mp [] 0)
  | _ => none
theorem evNw_ok {P : Program} {g : Pg} (hg : POK P g) {E : Env} {w : World} {s : Sl} {n : Nat} {a : Act} (hA : AR g.G E s n a) {q : Nat} {o : Oper} {v : AV} {ob : OB} (k : evNw g s q o.op = some (v, ob)) :
    (∀ c, o.op ≠ .defer c) ∧ ∃ S : Sem Value, execOp a.eval o = (do pure (.value (← S))) ∧ Lay P E w S q v ob := by
  obtain ⟨dst, op, ty, pos, after, guard⟩ := o
  simp only at k
  unfold evNw at k
  split at k
  · exact ⟨by simp, _, rfl, aAlloc_ok hg.T k⟩
  · split at k
    · rename_i u hu
      injection k with k
      have := aBox_ok (P := P) (w := w) (q := q) (t := ‹TypeId›) (opd_ok hA hu)
      rw [k] at this
      exact ⟨by simp, _, rfl, this⟩
    · cases k
  · split at k
    · rename_i as has
      refine ⟨by simp, _, ?_, aBuildSlice_ok hg.T k (prts_ok hA has)⟩
      simp only [execOp, List.map_toArray]
    · cases k
  · split at k
    · rename_i u v hu hv
      exact ⟨by simp, _, rfl, aMakeSlice_ok hg.T k (opd_ok hA hu) (opd_ok hA hv)⟩
    · cases k
  · simp only [Option.some.injEq, Prod.mk.injEq] at k
    obtain ⟨rfl, rfl⟩ := k
    exact ⟨by simp, _, rfl, aMakeMap_ok⟩
  · cases k

/-! ### The same operands, the same answer -/
section
variable {G : Nat} {s s' : Sl}
theorem opd_congr {x : Operand} (h : ∀ t, x = .tmp t → look s t = look s' t) : opd G s x = opd G s' x := by
  cases x with
  | tmp t => simp only [opd, h t rfl]
  | _ => rfl
theorem opds_congr : ∀ {xs : List Operand}, (∀ x ∈ xs, opd G s x = opd G s' x) → opds G s xs = opds G s' xs
  | [], _ => rfl
  | x :: xs, h => by simp only [opds, h x (by simp), opds_congr (xs := xs) fun y hy => h y (by simp [hy])]
theorem prts_congr : ∀ {xs : List (Nat × Operand)}, (∀ x ∈ xs, opd G s x.2 = opd G s' x.2) → prts G s xs = prts G s' xs
  | [], _ => rfl
  | (i, x) :: xs, h => by simp only [prts, h (i, x) (by simp), prts_congr (xs := xs) fun y hy => h y (by simp [hy])]
theorem opdo_congr {x : Option Operand} (h : ∀ y ∈ x, opd G s y = opd G s' y) : opdo G s x = opdo G s' x := by
  cases x with
  | none => rfl
  | some y => simp only [opdo, h y rfl]
theorem evP_congr {T : TT} {o : Op} (hop : ∀ x ∈ o.operands.toList, opd G s x = opd G s' x) : evP G T s o = evP G T s' o := by
  cases o with
  | makeFunc f a b =>
    obtain ⟨a⟩ := a
    obtain ⟨b⟩ := b
    cases f <;> cases a <;> first | rfl | skip
    all_goals first | rfl | simp only [evP, opds_congr (xs := b) fun x hx => hop x (by simp [Op.operands, hx])]
  | slice t x lo hi mx =>
    simp only [evP]
    rw [hop x (by simp [Op.operands]), opdo_congr fun y hy => hop y (by simp [Op.operands]; cases hy; simp), opdo_congr fun y hy => hop y (by simp [Op.operands]; cases hy; simp), opdo_congr fun y hy => hop y (by simp [Op.operands]; cases hy; simp)]
  | build t ps =>
    obtain ⟨ps⟩ := ps
    simp only [evP]
    rw [prts_congr (xs := ps) fun x hx => hop x.2 (by simp [Op.operands]; exact ⟨x.1, hx⟩)]
  | call c =>
    obtain ⟨cl, ⟨xs⟩, ⟨ts⟩⟩ := c
    cases cl with
    | builtin b =>
      simp only [Op.operands, Call.operands] at hop
      have hop' : ∀ x ∈ xs, opd G s x = opd G s' x := fun x hx => hop x (by simp [hx])
      cases b <;> first | rfl | skip
      all_goals
        match xs, hop' with
        | [], _ => rfl
        | [x], hop' => first | rfl | (match ts with
          | [] => rfl
          | [t] => simp only [evP, hop' x (by simp)]
          | _ :: _ :: _ => rfl)
        | [x, y], hop' => first | rfl | simp only [evP, hop' x (by simp), hop' y (by simp)]
        | _ :: _ :: _ :: _, _ => rfl
    | _ => rfl
  | _ =>
    first
      | rfl
      | (simp only [evP]; simp only [Op.operands, List.mem_cons, List.not_mem_nil, or_false, forall_eq, forall_eq_or_imp] at hop; simp only [hop])
theorem evM_congr {g : Pg} {h : H} {o : Op} (hop : ∀ x ∈ o.operands.toList, opd g.G s x = opd g.G s' x) : evM g s h o = evM g s' h o := by
  cases o with
  | buildSlice t n ps =>
    obtain ⟨ps⟩ := ps
    simp only [evM]
    rw [prts_congr (xs := ps) fun x hx => hop x.2 (by simp [Op.operands]; exact ⟨x.1, hx⟩)]
  | makeMap t r => cases r <;> rfl
  | defer c =>
    obtain ⟨cl, ⟨xs⟩, ts⟩ := c
    cases cl with
    | value f =>
      simp only [Op.operands, Call.operands] at hop
      simp only [evM]
      rw [hop f (by simp), opds_congr (xs := xs) fun x hx => hop x (by simp [hx])]
    | _ => rfl
  | call c =>
    obtain ⟨cl, ⟨xs⟩, ⟨ts⟩⟩ := c
    cases cl with
    | value f =>
      simp only [Op.operands, Call.operands] at hop
      simp only [evM]
      rw [hop f (by simp), opds_congr (xs := xs) fun x hx => hop x (by simp [hx])]
    | builtin b =>
      simp only [Op.operands, Call.operands] at hop
      have hop' : ∀ x ∈ xs, opd g.G s x = opd g.G s' x := fun x hx => hop x (by simp [hx])
      cases b <;> first | rfl | skip
      all_goals
        match xs, hop' with
        | [], _ => rfl
        | [x], hop' => first | rfl | (match ts with
          | [] => rfl
          | [t] => first | rfl | simp only [evM, hop' x (by simp)]
          | _ :: _ :: _ => rfl)
        | [x, y], hop' => first | rfl | (match ts with
          | [] => rfl
          | [t] => rfl
          | [t, u] => first | rfl | simp only [evM, hop' x (by simp), hop' y (by simp)]
          | _ :: _ :: _ :: _ => rfl)
        | _ :: _ :: _ :: _, _ => rfl
    | _ => rfl
  | _ =>
    first
      | rfl
      | (simp only [evM]; simp only [Op.operands, List.mem_cons, List.not_mem_nil, or_false, forall_eq, forall_eq_or_imp] at hop; simp only [hop])
theorem evNw_congr {g : Pg} {q : Nat} {o : Op} (hop : ∀ x ∈ o.operands.toList, opd g.G s x = opd g.G s' x) : evNw g s q o = evNw g s' q o := by
  cases o with
  | buildSlice t n ps =>
    obtain ⟨ps⟩ := ps
    simp only [evNw]
    rw [prts_congr (xs := ps) fun x hx => hop x.2 (by simp [Op.operands]; exact ⟨x.1, hx⟩)]
  | makeMap t r => cases r <;> rfl
  | _ =>
    first
      | rfl
      | (simp only [evNw]; simp only [Op.operands, List.mem_cons, List.not_mem_nil, or_false, forall_eq, forall_eq_or_imp] at hop; simp only [hop])
theorem evOp_congr {rec : Rec} {g : Pg} {h : H} {o : Op} (hop : ∀ x ∈ o.operands.toList, opd g.G s x = opd g.G s' x) : evOp rec g s h o = evOp rec g s' h o := by
  unfold evOp evO
  rw [evP_congr hop, evM_congr hop]
end
end Go.Ev
