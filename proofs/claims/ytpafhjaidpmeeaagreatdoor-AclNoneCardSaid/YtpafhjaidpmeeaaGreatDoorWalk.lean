/- Words of this claim: a walk over few slots. A state is a short list of what is known of slots; each operation has its own small law; a guarded operation leaves a slot that holds under the guard. -/
import Derived.Test.YtpafhjaidpmeeaaGreatDoorBase
import Derived.Deep.Quiet
set_option linter.unusedVariables false
namespace Go.Ag
open Go.RowKit

/-- What is known: (slot, condition, value): under the condition the slot holds the value, else nothing. -/
abbrev L := List (Nat × Bool × Value)

def lk : L → Nat → Option (Bool × Value)
  | [], _ => none
  | (j, c, v) :: l, i => match Nat.beq j i with
    | true => some (c, v)
    | false => lk l i

/-- A function's slots; the calls that it has deferred. -/
structure Nm where
  n : Nat
  ds : List Deferred
def Ag (N : Nm) (l : L) (a : Act) : Prop :=
  a.defers = N.ds ∧ N.n ≤ a.tmps.size ∧ ∀ i c v, lk l i = some (c, v) → a.tmps.getD i undef = bif c then v else undef

def ev (l : L) : Operand → Option (Bool × Value)
  | .tmp t => lk l t
  | .const v => some (true, v)
  | .global g => some (true, .pointer (some ⟨g, 0, none⟩))
  | .func f => some (true, .func (.func f) #[] #[])

theorem Ag.eval {N : Nm} {l : L} {a : Act} (h : Ag N l a) {x : Operand} {c : Bool} {v : Value} (he : ev l x = some (c, v)) (hc : c = true) : a.eval x = v := by
  subst hc
  cases x with
  | tmp t => exact h.2.2 t true v he
  | const u => simp only [ev, Option.some.injEq, Prod.mk.injEq] at he; exact he.2
  | global g => simp only [ev, Option.some.injEq, Prod.mk.injEq] at he; exact he.2
  | func f => simp only [ev, Option.some.injEq, Prod.mk.injEq] at he; exact he.2

theorem Ag.put {N : Nm} {l : L} {a : Act} (h : Ag N l a) {d : Nat} (hd : d < N.n) (v : Value) : Ag N ((d, true, v) :: l) (a.put (some d) v) := by
  refine ⟨h.1, by simpa [Act.put] using h.2.1, fun i c u hu => ?_⟩
  simp only [lk] at hu
  have hsz : d < a.tmps.size := by have := h.2.1; omega
  split at hu
  · rename_i hb
    have : d = i := Nat.eq_of_beq_eq_true hb
    subst this
    simp only [Option.some.injEq, Prod.mk.injEq] at hu
    obtain ⟨rfl, rfl⟩ := hu
    simp [Act.put, hsz]
  · rename_i hb
    have hne : d ≠ i := fun e => by subst e; simp at hb
    have := h.2.2 i c u hu
    simp only [Act.put, Array.getD_eq_getD_getElem?, Array.getElem?_setIfInBounds, if_neg hne] at this ⊢
    exact this

theorem Ag.putc {N : Nm} {l : L} {a : Act} (h : Ag N l a) {d : Nat} (hd : d < N.n) (c : Bool) (v : Value) : Ag N ((d, c, v) :: l) (a.put (some d) (bif c then v else undef)) := by
  have hp := h.put hd (bif c then v else undef)
  refine ⟨hp.1, hp.2.1, fun i c' u hu => ?_⟩
  simp only [lk] at hu
  split at hu
  · rename_i hb
    simp only [Option.some.injEq, Prod.mk.injEq] at hu
    obtain ⟨rfl, rfl⟩ := hu
    have := hp.2.2 i true (bif c then v else undef) (by simp only [lk, hb])
    simpa using this
  · rename_i hb
    exact hp.2.2 i c' u (by simp only [lk, hb]; exact hu)

/-- Fewer slots are known. -/
theorem Ag.sub {N : Nm} {l l' : L} {a : Act} (h : Ag N l a) (hs : ∀ i c v, lk l' i = some (c, v) → lk l i = some (c, v)) : Ag N l' a := ⟨h.1, h.2.1, fun i c v hv => h.2.2 i c v (hs i c v hv)⟩

/-- A slot after another is kept. -/
def keep (l : L) : List Nat → L
  | [] => []
  | k :: ks => match lk l k with
    | some (c, v) => (k, c, v) :: keep l ks
    | none => keep l ks

theorem lk_keep (l : L) : ∀ (ks : List Nat) (i : Nat) (c : Bool) (v : Value), lk (keep l ks) i = some (c, v) → lk l i = some (c, v)
  | [], i, c, v, h => by simp [keep, lk] at h
  | k :: ks, i, c, v, h => by
    simp only [keep] at h
    split at h
    · rename_i c' v' hk
      simp only [lk] at h
      split at h
      · rename_i hb
        have : k = i := Nat.eq_of_beq_eq_true hb
        subst this
        simp only [Option.some.injEq, Prod.mk.injEq] at h
        obtain ⟨rfl, rfl⟩ := h
        exact hk
      · exact lk_keep l ks i c v h
    · exact lk_keep l ks i c v h

/-- A guard: the condition under which an operation is carried out. -/
def gd (ops : Array Oper) (l : L) (o : Oper) : Option Bool :=
  match o.guard with
  | none => some true
  | some (j, want) => match (ops[j]?).bind (·.dst) with
    | some d => match lk l d with
      | some (c, .bool b) => some (c && (bif want then b else !b))
      | _ => none
    | none => none

theorem Ag.wanted {N : Nm} {l : L} {a : Act} (h : Ag N l a) {ops : Array Oper} {o : Oper} {c : Bool} (hg : gd ops l o = some c) : Region.wanted o (yielded ops a.tmps) = c := by
  unfold gd at hg
  unfold Region.wanted
  split at hg
  · rename_i hn
    simp only [hn]
    simpa using hg.symm
  · rename_i j want hn
    simp only [hn]
    split at hg
    · rename_i d hd
      split at hg
      · rename_i c' b hl
        have hv := h.2.2 d c' _ hl
        injection hg with hg
        subst hg
        unfold yielded
        rw [hd]
        simp only [Option.bind_some]
        cases c' with
        | true =>
          have : a.tmps[d]? = some (.bool b) := by
            rw [Array.getD_eq_getD_getElem?] at hv
            cases hx : a.tmps[d]? with
            | none => rw [hx] at hv; simp [undef] at hv
            | some u => rw [hx] at hv; simpa using hv
          rw [this]
          cases want <;> cases b <;> rfl
        | false =>
          have : ∀ b', a.tmps[d]? ≠ some (.bool b') := by
            intro b' hx
            rw [Array.getD_eq_getD_getElem?, hx] at hv
            simp [undef] at hv
          cases hx : a.tmps[d]? with
          | none => simp
          | some u =>
            cases u <;> simp
            exact absurd hx (this _)
      · simp at hg
    · simp at hg

section
variable {P : Program} {ops : Array Oper} {Q : Exit → Act → World → Prop}

/-- A region's operations, one behind the other; what comes behind: K. -/
def wl (P : Program) (ops : Array Oper) (Q : Exit → Act → World → Prop) (K : Act → World → Prop) : List Oper → Act → World → Prop
  | [], a, w => K a w
  | o :: rest, a, w =>
    if Region.wanted o (yielded ops a.tmps) then o.wp P a w (wl P ops Q K rest) Q ∨ (o.asks P a w ∧ LetsOut Q) else wl P ops Q K rest (a.put o.dst undef) w

theorem wl_eq (l : List Oper) : ∀ (a : Act) (w : World), wl P ops Q (Q .normal) l a w = wpList P ops Q l a w := by
  induction l with
  | nil => intro a w; rfl
  | cons o l ih =>
    intro a w
    have : wl P ops Q (Q .normal) l = wpList P ops Q l := funext fun a => funext fun w => ih a w
    simp only [wl, wpList, this]

def W (N : Nm) (P : Program) (ops : Array Oper) (Q : Exit → Act → World → Prop) (K : Act → World → Prop) (rest : List Oper) (l : L) (w : World) : Prop := ∀ a, Ag N l a → wl P ops Q K rest a w
def WC (N : Nm) (P : Program) (c : Code) (Q : Exit → Act → World → Prop) (l : L) (w : World) : Prop := ∀ a, Ag N l a → c.wp P Q a w
def KC (N : Nm) (K : Act → World → Prop) (l : L) (w : World) : Prop := ∀ a, Ag N l a → K a w
end

section
variable {N : Nm} {P : Program} {ops : Array Oper} {Q : Exit → Act → World → Prop} {K : Act → World → Prop} {rest : List Oper} {l : L} {w : World}

/-! ### Code -/
theorem WC.seq {x y : Code} (h : WC N P x (Exit.then (y.wp P Q) Q) l w) : WC N P (.seq x y) Q l w := fun a ha => wp_seq (h a ha)
theorem WC.skip (h : KC N (Q .normal) l w) : WC N P .skip Q l w := fun a ha => wp_skip (h a ha)
theorem WC.ret (h : KC N (Q .ret) l w) : WC N P .ret Q l w := fun a ha => wp_ret (h a ha)
theorem WC.exit {id : Nat} (h : KC N (Q (.exit id)) l w) : WC N P (.exit id) Q l w := fun a ha => wp_exit (h a ha)
theorem WC.block {id : Nat} {c : Code} (h : WC N P c (Exit.inBlock id Q) l w) : WC N P (.block id c) Q l w := fun a ha => wp_block (h a ha)
theorem WC.scope {c : Code} (h : WC N P c (Exit.noGoto Q) l w) : WC N P (.scope c) Q l w := fun a ha => wp_scope_straight (h a ha)
theorem WC.label {n : Nat} (h : KC N (Q .normal) l w) : WC N P (.label n) Q l w := fun a ha => wp_label (h a ha)
theorem WC.cond {x : Operand} {s t : Code} {b : Bool} (hc : ev l x = some (true, .bool b)) (ht : b = true → WC N P s Q l w) (hf : b = false → WC N P t Q l w) : WC N P (.cond x s t) Q l w :=
  fun a ha => wp_cond_split (ha.eval hc rfl) (fun e => ht e a ha) (fun e => hf e a ha)
theorem WC.condT {x : Operand} {s t : Code} {b : Bool} (hc : ev l x = some (true, .bool b)) (hb : b = true) (h : WC N P s Q l w) : WC N P (.cond x s t) Q l w :=
  fun a ha => wp_cond_true (by rw [ha.eval hc rfl, hb]) (h a ha)
theorem WC.condF {x : Operand} {s t : Code} {b : Bool} (hc : ev l x = some (true, .bool b)) (hb : b = false) (h : WC N P t Q l w) : WC N P (.cond x s t) Q l w :=
  fun a ha => wp_cond_false (by rw [ha.eval hc rfl, hb]) (h a ha)
theorem WC.reg {id : Nat} {os : List Oper} (h : W N P os.toArray Q (Q .normal) os l w) : WC N P (.region id os.toArray false) Q l w :=
  fun a ha => wp_region_lit (by rw [← wl_eq]; exact h a ha)
/-- A loop: what holds at each round's head, with a number that every round lowers. -/
theorem WC.loop {c : Code} (I : Nat → Act → World → Prop) (n : Nat) (h0 : KC N (I n) l w)
    (hr : ∀ n a w, I n a w → c.wp P (Exit.then (fun a' w' => ∃ n', n' < n ∧ I n' a' w') Q) a w) : WC N P (.loop c) Q l w :=
  fun a ha => wp_loop_ghost I n (h0 a ha) hr
/-- A round has come to its end: at an index with a smaller number. -/
def Again {ι : Type} (N : Nm) (lf : ι → L) (F : ι → World → Prop) (μ : ι → Nat) (m : Nat) (a : Act) (w : World) : Prop := ∃ i', μ i' < m ∧ Ag N (lf i') a ∧ F i' w
/-- The same over an index: the slots that are known, what holds, a number that falls. -/
theorem WC.loopI {ι : Type} {c : Code} (lf : ι → L) (F : ι → World → Prop) (μ : ι → Nat) (i0 : ι) (ks : List Nat) (hk : Go.Ag.keep l ks = lf i0) (h0 : F i0 w)
    (hr : ∀ i w m, μ i = m → F i w → WC N P c (Exit.then (Again N lf F μ m) Q) (lf i) w) : WC N P (.loop c) Q l w :=
  WC.loop (fun n a w => ∃ i, n = μ i ∧ Ag N (lf i) a ∧ F i w) (μ i0) (fun a ha => ⟨i0, rfl, by rw [← hk]; exact ha.sub (lk_keep l ks), h0⟩)
    (fun n a w ⟨i, hn, ha, hf⟩ => wp_mono (hr i w _ rfl hf a ha) fun e a' w' hq => by
      cases e with
      | normal => obtain ⟨i', h1, h2, h3⟩ := hq; exact ⟨μ i', by omega, i', rfl, h2, h3⟩
      | exit id => exact hq
      | goto l => exact hq
      | ret => exact hq
      | panic ch => exact hq
      | outgrown => exact hq)
theorem KC.again {ι : Type} {lf : ι → L} {F : ι → World → Prop} {μ : ι → Nat} {m : Nat} (i' : ι) (ks : List Nat) (hk : Go.Ag.keep l ks = lf i') (hm : μ i' < m) (hF : F i' w) :
    KC N (Exit.then (Again N lf F μ m) Q .normal) l w :=
  fun a ha => ⟨i', hm, by rw [← hk]; exact ha.sub (lk_keep l ks), hF⟩
/-- A function's beginning. -/
theorem enter {f : FuncId} {fn : Func} {c : Code} {args : List Value} {R : Ending → World → Prop} (hf : P.funcs[f]? = some fn) (hb : fn.body = some c) (l0 : L)
    (hl : ∀ i c v, lk l0 i = some (c, v) → c = true ∧ args[i]? = some v) (h : WC ⟨fn.ntmps, []⟩ P c (bodyPost P fn R) l0 w) : Calls P f args.toArray w R := by
  refine calls_of_wp hf hb (h _ ⟨rfl, by simp; omega, fun i c v hv => ?_⟩)
  obtain ⟨rfl, hi⟩ := hl i c v hv
  have hlt : i < args.length := (List.getElem?_eq_some_iff.1 hi).1
  have hi' : args[i] = v := by simpa [hlt] using hi
  simp [Array.getElem?_append, hlt, hi']
theorem args_ok : ∀ (args : List Value) (n : Nat), let l0 := (args.zipIdx n).map fun (v, i) => (i, true, v); ∀ i c v, lk l0 i = some (c, v) → c = true ∧ n ≤ i ∧ args[i - n]? = some v
  | [], n => by simp [lk]
  | u :: us, n => by
    intro l0 i c v h
    simp only [l0, List.zipIdx_cons, List.map_cons, lk] at h
    split at h
    · rename_i hb
      have := Nat.eq_of_beq_eq_true hb
      subst this
      simp only [Option.some.injEq, Prod.mk.injEq] at h
      simp [h.1.symm, h.2]
    · rename_i hb
      obtain ⟨h1, h2, h3⟩ := args_ok us (n + 1) i c v h
      refine ⟨h1, by omega, ?_⟩
      rw [show i - n = (i - (n + 1)) + 1 from by omega]
      simpa using h3
def l0 (args : List Value) : L := (args.zipIdx 0).map fun (v, i) => (i, true, v)
theorem enters {f : FuncId} {fn : Func} {c : Code} {args : List Value} {R : Ending → World → Prop} (hf : P.funcs[f]? = some fn) (hb : fn.body = some c)
    (h : WC ⟨fn.ntmps, []⟩ P c (bodyPost P fn R) (l0 args) w) : Calls P f args.toArray w R :=
  enter hf hb (l0 args) (fun i c v hv => by have := args_ok args 0 i c v hv; exact ⟨this.1, by simpa using this.2.2⟩) h
theorem WC.keep (ks : List Nat) {c : Code} (h : WC N P c Q (keep l ks) w) : WC N P c Q l w := fun a ha => h a (ha.sub (lk_keep l ks))
theorem KC.keep (ks : List Nat) {K : Act → World → Prop} (h : KC N K (keep l ks) w) : KC N K l w := fun a ha => h a (ha.sub (lk_keep l ks))

/-! ### What stands behind -/
theorem KC.next {c : Code} (h : WC N P c Q l w) : KC N (Exit.then (c.wp P Q) Q .normal) l w := h
theorem KC.round {J : Act → World → Prop} (h : KC N J l w) : KC N (Exit.then J Q .normal) l w := h
theorem KC.blk {id : Nat} (h : KC N (Q .normal) l w) : KC N (Exit.inBlock id Q .normal) l w := h
theorem KC.thenExit {J : Act → World → Prop} {id : Nat} (h : KC N (Q (.exit id)) l w) : KC N (Exit.then J Q (.exit id)) l w := h
theorem KC.thenRet {J : Act → World → Prop} (h : KC N (Q .ret) l w) : KC N (Exit.then J Q .ret) l w := h
theorem KC.blkRet {id : Nat} (h : KC N (Q .ret) l w) : KC N (Exit.inBlock id Q .ret) l w := h
theorem KC.blkHit {id : Nat} (h : KC N (Q .normal) l w) : KC N (Exit.inBlock id Q (.exit id)) l w := fun a ha => by simp only [Exit.inBlock, if_true]; exact h a ha
theorem KC.blkMiss {id id' : Nat} (hne : id' ≠ id) (h : KC N (Q (.exit id')) l w) : KC N (Exit.inBlock id Q (.exit id')) l w := fun a ha => by simp only [Exit.inBlock, if_neg hne]; exact h a ha
theorem KC.scopeN (h : KC N (Q .normal) l w) : KC N (Exit.noGoto Q .normal) l w := h
theorem KC.scopeR (h : KC N (Q .ret) l w) : KC N (Exit.noGoto Q .ret) l w := h
theorem KC.scopeE {id : Nat} (h : KC N (Q (.exit id)) l w) : KC N (Exit.noGoto Q (.exit id)) l w := h

/-! ### A function's end -/
theorem KC.fin0 {n : Nat} {fn : Func} {R : Ending → World → Prop} (hr : fn.results = #[]) (h : R (.returned (.tuple #[])) w) : KC ⟨n, []⟩ (bodyPost P fn R .ret) l w :=
  fun a ha => ⟨ha.1, _, results_none hr _ _ _, h⟩
theorem KC.fin0n {n : Nat} {fn : Func} {R : Ending → World → Prop} (hr : fn.results = #[]) (h : R (.returned (.tuple #[])) w) : KC ⟨n, []⟩ (bodyPost P fn R .normal) l w :=
  fun a ha => ⟨ha.1, _, results_none hr _ _ _, h⟩
theorem KC.fin1 {n : Nat} {fn : Func} {R : Ending → World → Prop} {t : Tmp} {v : Value} (hr : fn.results = #[.tmp t]) (hv : lk l t = some (true, v)) (h : R (.returned v) w) : KC ⟨n, []⟩ (bodyPost P fn R .ret) l w :=
  fun a ha => ⟨ha.1, v, by rw [results_tmp hr]; exact congrArg (fun x => Result.ok x w) (ha.2.2 t true v hv), h⟩
theorem KC.fin2 {n : Nat} {fn : Func} {R : Ending → World → Prop} {t u : Tmp} {v x : Value} (hr : fn.results = #[.tmp t, .tmp u]) (hv : lk l t = some (true, v)) (hx : lk l u = some (true, x)) (h : R (.returned (.tuple #[v, x])) w) : KC ⟨n, []⟩ (bodyPost P fn R .ret) l w :=
  fun a ha => ⟨ha.1, _, by rw [results_tmp2 hr, show a.tmps.getD t undef = v from ha.2.2 t true v hv, show a.tmps.getD u undef = x from ha.2.2 u true x hx], h⟩
theorem KC.fin3 {n : Nat} {fn : Func} {R : Ending → World → Prop} {t u s : Tmp} {v x y : Value} (hr : fn.results = #[.tmp t, .tmp u, .tmp s]) (hv : lk l t = some (true, v)) (hx : lk l u = some (true, x)) (hy : lk l s = some (true, y)) (h : R (.returned (.tuple #[v, x, y])) w) : KC ⟨n, []⟩ (bodyPost P fn R .ret) l w :=
  fun a ha => ⟨ha.1, _, by rw [results_tmp3 hr, show a.tmps.getD t undef = v from ha.2.2 t true v hv, show a.tmps.getD u undef = x from ha.2.2 u true x hx, show a.tmps.getD s undef = y from ha.2.2 s true y hy], h⟩

/-! ### A region's end, an operation -/
theorem W.done (h : KC N K l w) : W N P ops Q K [] l w := h
theorem W.keep (ks : List Nat) (h : W N P ops Q K rest (keep l ks) w) : W N P ops Q K rest l w := fun a ha => h a (ha.sub (lk_keep l ks))

/-- Any operation that yields a value: in the world w', of which R says what is to be known. -/
theorem W.opw {o : Oper} {d : Nat} {c : Bool} (R : Value → World → Prop) (hg : gd ops l o = some c) (hd : o.dst = some d) (hN : Nat.ble (d + 1) N.n = true)
    (hrun : c = true → ∀ a, Ag N l a → ∃ v w', (execOp a.eval o).run P w = .ok (.value v) w' ∧ R v w')
    (h : ∀ v w', (c = true → R v w') → (c = false → w' = w) → W N P ops Q K rest ((d, c, v) :: l) w') : W N P ops Q K (o :: rest) l w := by
  intro a ha
  have hN' : d < N.n := Nat.le_of_ble_eq_true hN
  have hw := ha.wanted hg
  unfold wl
  cases c with
  | true =>
    rw [if_pos hw]
    refine .inl ?_
    obtain ⟨v, w', hr, hR⟩ := hrun rfl a ha
    unfold Oper.wp
    rw [hr, Oper.upon_value, hd]
    exact h v w' (fun _ => hR) (fun e => by cases e) _ (ha.putc hN' true v)
  | false =>
    rw [if_neg (by simp [hw]), hd]
    exact h undef w (fun e => by cases e) (fun _ => rfl) _ (ha.putc hN' false undef)

theorem W.op {o : Oper} {d : Nat} {c : Bool} {v : Value} (hg : gd ops l o = some c) (hd : o.dst = some d) (hN : Nat.ble (d + 1) N.n = true)
    (hrun : c = true → ∀ a, Ag N l a → (execOp a.eval o).run P w = .ok (.value v) w) (h : W N P ops Q K rest ((d, c, v) :: l) w) : W N P ops Q K (o :: rest) l w := by
  refine W.opw (fun v' w' => v' = v ∧ w' = w) hg hd hN (fun hc a ha => ⟨v, w, hrun hc a ha, rfl, rfl⟩) fun v' w' h1 h2 => ?_
  cases c with
  | true => obtain ⟨rfl, rfl⟩ := h1 rfl; exact h
  | false =>
    rw [h2 rfl]
    intro a ha
    refine h a ⟨ha.1, ha.2.1, fun i c u hu => ?_⟩
    simp only [lk] at hu
    split at hu
    · rename_i hb
      simp only [Option.some.injEq, Prod.mk.injEq] at hu
      obtain ⟨rfl, rfl⟩ := hu
      have := ha.2.2 i false v' (by simp only [lk, hb])
      simpa using this
    · rename_i hb
      exact ha.2.2 i c u (by simp only [lk, hb]; exact hu)

/-- An operation that turns nothing, whatever the world. -/
structure PS (N : Nm) (P : Program) (ops : Array Oper) (l : L) (o : Oper) (d : Nat) (c : Bool) (v : Value) : Prop where
  g : gd ops l o = some c
  d : o.dst = some d
  run : ∀ w, c = true → ∀ a, Ag N l a → (execOp a.eval o).run P w = .ok (.value v) w
theorem W.p {o : Oper} {d : Nat} {c : Bool} {v : Value} (h : PS N P ops l o d c v) (hN : Nat.ble (d + 1) N.n = true) (hw : W N P ops Q K rest ((d, c, v) :: l) w) : W N P ops Q K (o :: rest) l w :=
  W.op h.g h.d hN (h.run w) hw

/-! A region that draws its order, whose operations only read, in whatever world of a class. -/
def WQ (N : Nm) (P : Program) (ops : Array Oper) (C : World → Prop) (K : Act → Prop) (rest : List Oper) (l : L) : Prop := ∀ a, Ag N l a → wpQuiet P ops C K rest a
theorem WC.draw {id : Nat} {os : List Oper} (hm : P.follows .mixedOrders = true) (hB : Region.lexB .any os.toArray = true)
    (h : WQ N P os.toArray (fun w' => Below w.heap.size w w') (fun a => ∀ w', Below w.heap.size w w' → Q .normal a w') os l) : WC N P (.region id os.toArray true) Q l w :=
  fun a ha => wp_region_quiet (C := fun w' => Below w.heap.size w w') hm hB ⟨rfl, rfl, rfl, Nat.le_refl _, fun _ _ => rfl⟩ (by simpa using h a ha)
theorem WQ.done {C : World → Prop} (h : ∀ w', C w' → KC N (Q .normal) l w') : WQ N P ops C (fun a => ∀ w', C w' → Q .normal a w') [] l := fun a ha w' hw => h w' hw a ha
theorem WQ.op {C : World → Prop} {K : Act → Prop} {o : Oper} {d : Nat} {c : Bool} {v : Value} (hg : gd ops l o = some c) (hd : o.dst = some d) (hN : Nat.ble (d + 1) N.n = true)
    (hrun : ∀ w, C w → c = true → ∀ a, Ag N l a → (execOp a.eval o).run P w = .ok (.value v) w) (hw : WQ N P ops C K rest ((d, c, v) :: l)) : WQ N P ops C K (o :: rest) l := by
  intro a ha
  have hN' : d < N.n := Nat.le_of_ble_eq_true hN
  have hwa := ha.wanted hg
  unfold wpQuiet
  cases c with
  | true =>
    rw [if_pos hwa]
    refine ⟨v, fun w hC => ?_, ?_⟩
    · unfold Oper.quietAt
      rw [hrun w hC rfl a ha]
      exact ⟨rfl, rfl⟩
    · rw [hd]; exact hw _ (ha.putc hN' true v)
  | false =>
    rw [if_neg (by simp [hwa]), hd]
    have := ha.putc hN' false v
    exact hw _ this
theorem WQ.p {C : World → Prop} {K : Act → Prop} {o : Oper} {d : Nat} {c : Bool} {v : Value} (h : PS N P ops l o d c v) (hN : Nat.ble (d + 1) N.n = true) (hw : WQ N P ops C K rest ((d, c, v) :: l)) : WQ N P ops C K (o :: rest) l :=
  WQ.op h.g h.d hN (fun w _ => h.run w) hw

/-- One that yields nothing (a store). -/
theorem W.st {o : Oper} (R : World → Prop) (hg : gd ops l o = some true) (hd : o.dst = none)
    (hrun : ∀ a, Ag N l a → ∃ w', (execOp a.eval o).run P w = .ok .skip w' ∧ R w')
    (h : ∀ w', R w' → W N P ops Q K rest l w') : W N P ops Q K (o :: rest) l w := by
  intro a ha
  have hw := ha.wanted hg
  unfold wl
  rw [if_pos hw]
  refine .inl ?_
  obtain ⟨w', hr, hR⟩ := hrun a ha
  unfold Oper.wp
  rw [hr, Oper.upon_skip, hd]
  exact h w' hR a ha

/-- A call: the function has a body, and its contract. -/
def Enters (P : Program) (f : FuncId) : Prop := ∃ fn c, P.funcs[f]? = some fn ∧ (fn.name == "runtime.NumGoroutine") = false ∧ fn.body = some c
theorem Enters.run {f : FuncId} (h : Enters P f) (args : Array Value) (w : World) : (callFunc f args).run P w = .ok (.enter f args) w := by
  obtain ⟨fn, c, hf, hn, hb⟩ := h
  have hn' : ¬ fn.name = "runtime.NumGoroutine" := by simpa using hn
  unfold callFunc
  simp [hf, hn', hb, go_sem]

def evs (l : L) : List Operand → Option (Bool × List Value)
  | [] => some (true, [])
  | x :: xs => match ev l x, evs l xs with
    | some (c, v), some (c', vs) => some (c && c', v :: vs)
    | _, _ => none

theorem Ag.evals {a : Act} (h : Ag N l a) : ∀ {xs : List Operand} {c : Bool} {vs : List Value}, evs l xs = some (c, vs) → c = true → xs.map a.eval = vs
  | [], c, vs, he, hc => by simp only [evs, Option.some.injEq, Prod.mk.injEq] at he; rw [← he.2]; rfl
  | x :: xs, c, vs, he, hc => by
    simp only [evs] at he
    split at he
    · rename_i c1 v1 c2 vs2 h1 h2
      simp only [Option.some.injEq, Prod.mk.injEq] at he
      obtain ⟨rfl, rfl⟩ := he
      simp only [Bool.and_eq_true] at hc
      simp [h.eval h1 hc.1, h.evals h2 hc.2]
    · simp at he

theorem W.callc {f : Operand} {xs : List Operand} {ts : Array TypeId} {d : Nat} {ty : TypeId} {pos : String} {af : Array Edge} {g : Option (Nat × Bool)} {c cf ca : Bool} {F : FuncId} {caps : List Value} {vs : List Value} {R : Ending → World → Prop}
    (hg : gd ops l { dst := some d, op := .call { callee := .value f, args := xs.toArray, argTypes := ts }, type := ty, pos := pos, after := af, guard := g } = some c) (hN : Nat.ble (d + 1) N.n = true)
    (hf : ev l f = some (cf, .func (.func F) #[] caps.toArray)) (hcf : c = true → cf = true) (ha : evs l xs = some (ca, vs)) (hca : c = true → ca = true) (hE : Enters P F)
    (hC : c = true → Calls P F (vs ++ caps).toArray w R) (hR : ∀ e w', R e w' → ∃ v, e = .returned v)
    (h : ∀ v w', (c = true → R (.returned v) w') → (c = false → w' = w) → W N P ops Q K rest ((d, c, v) :: l) w') :
    W N P ops Q K ({ dst := some d, op := .call { callee := .value f, args := xs.toArray, argTypes := ts }, type := ty, pos := pos, after := af, guard := g } :: rest) l w := by
  intro a hA
  have hN' : d < N.n := Nat.le_of_ble_eq_true hN
  have hw := hA.wanted hg
  unfold wl
  cases c with
  | true =>
    rw [if_pos hw]
    refine .inl ?_
    have hfe := hA.eval hf (hcf rfl)
    have hae := hA.evals ha (hca rfl)
    have hrun : (execOp a.eval { dst := some d, op := .call { callee := .value f, args := xs.toArray, argTypes := ts }, type := ty, pos := pos, after := af, guard := g }).run P w = .ok (.enter F (vs ++ caps).toArray) w := by
      unfold execOp
      simp only [resolve, Deferred.ofValue, hfe, List.map_toArray, hae, Sem.run_bind, Sem.run_pure, Result.andThen_ok, invoke, List.append_toArray, List.nil_append]
      exact hE.run _ w
    unfold Oper.wp
    rw [hrun, Oper.upon_enter]
    refine (hC rfl).mono fun e w' hr => ?_
    obtain ⟨v, rfl⟩ := hR e w' hr
    exact h v w' (fun _ => hr) (fun e => by cases e) _ (hA.putc hN' true v)
  | false =>
    rw [if_neg (by simp [hw])]
    exact h undef w (fun e => by cases e) (fun _ => rfl) _ (hA.putc hN' false undef)

/-- A call, guarded or not, whose value is told; what was there before stands. -/
theorem W.callb {f : Operand} {xs : List Operand} {ts : Array TypeId} {d : Nat} {ty : TypeId} {pos : String} {af : Array Edge} {g : Option (Nat × Bool)} {c cf ca : Bool} {F : FuncId} {caps : List Value} {vs : List Value} {v : Value}
    (hg : gd ops l { dst := some d, op := .call { callee := .value f, args := xs.toArray, argTypes := ts }, type := ty, pos := pos, after := af, guard := g } = some c) (hN : Nat.ble (d + 1) N.n = true)
    (hf : ev l f = some (cf, .func (.func F) #[] caps.toArray)) (hcf : c = true → cf = true) (ha : evs l xs = some (ca, vs)) (hca : c = true → ca = true) (hE : Enters P F)
    (hC : c = true → Calls P F (vs ++ caps).toArray w fun e w' => e = .returned v ∧ Below w.heap.size w w')
    (h : ∀ w', Below w.heap.size w w' → W N P ops Q K rest ((d, c, v) :: l) w') :
    W N P ops Q K ({ dst := some d, op := .call { callee := .value f, args := xs.toArray, argTypes := ts }, type := ty, pos := pos, after := af, guard := g } :: rest) l w := by
  refine W.callc (R := fun e w' => e = .returned v ∧ Below w.heap.size w w') hg hN hf hcf ha hca hE hC (fun e w' x => ⟨v, x.1⟩) fun v' w' h1 h2 => ?_
  cases c with
  | true =>
    obtain ⟨hv, hB⟩ := h1 rfl
    injection hv with hv
    subst hv
    exact h w' hB
  | false =>
    have hww := h2 rfl
    subst hww
    intro a hA
    exact h w' (Below.refl _ _) a ⟨hA.1, hA.2.1, fun i c u hu => by
      simp only [lk] at hu
      split at hu
      · rename_i hb
        simp only [Option.some.injEq, Prod.mk.injEq] at hu
        obtain ⟨rfl, rfl⟩ := hu
        have := hA.2.2 i false v' (by simp only [lk, hb])
        simpa using this
      · rename_i hb
        exact hA.2.2 i c u (by simp only [lk, hb]; exact hu)⟩

theorem W.call {f : Operand} {xs : List Operand} {ts : Array TypeId} {d : Nat} {ty : TypeId} {pos : String} {af : Array Edge} {F : FuncId} {caps : List Value} {vs : List Value} {R : Ending → World → Prop}
    (hN : Nat.ble (d + 1) N.n = true) (hf : ev l f = some (true, .func (.func F) #[] caps.toArray)) (ha : evs l xs = some (true, vs)) (hE : Enters P F)
    (hC : Calls P F (vs ++ caps).toArray w R) (h : ∀ e w', R e w' → ∃ v, e = .returned v ∧ W N P ops Q K rest ((d, true, v) :: l) w') :
    W N P ops Q K ({ dst := some d, op := .call { callee := .value f, args := xs.toArray, argTypes := ts }, type := ty, pos := pos, after := af, guard := none } :: rest) l w := by
  refine W.callc (c := true) (R := fun e w' => R e w' ∧ ∃ v, e = .returned v) rfl hN hf (fun _ => rfl) ha (fun _ => rfl) hE (fun _ => hC.mono fun e w' hr => ⟨hr, (h e w' hr).imp fun _ x => x.1⟩) (fun e w' x => x.2) ?_
  intro v w' h1 _
  obtain ⟨v', he, hw⟩ := h _ w' (h1 rfl).1
  injection he with he
  subst he
  exact hw
theorem WQ.callc {C : World → Prop} {K : Act → Prop} {f : Operand} {xs : List Operand} {ts : Array TypeId} {d : Nat} {ty : TypeId} {pos : String} {af : Array Edge} {g : Option (Nat × Bool)} {c cf ca : Bool} {F : FuncId} {caps : List Value} {vs : List Value} {v : Value}
    (hg : gd ops l { dst := some d, op := .call { callee := .value f, args := xs.toArray, argTypes := ts }, type := ty, pos := pos, after := af, guard := g } = some c) (hN : Nat.ble (d + 1) N.n = true)
    (hf : ev l f = some (cf, .func (.func F) #[] caps.toArray)) (hcf : c = true → cf = true) (ha : evs l xs = some (ca, vs)) (hca : c = true → ca = true) (hE : Enters P F)
    (hC : ∀ w, C w → c = true → Calls P F (vs ++ caps).toArray w fun e w' => e = .returned v ∧ C w')
    (h : WQ N P ops C K rest ((d, c, v) :: l)) :
    WQ N P ops C K ({ dst := some d, op := .call { callee := .value f, args := xs.toArray, argTypes := ts }, type := ty, pos := pos, after := af, guard := g } :: rest) l := by
  intro a hA
  have hN' : d < N.n := Nat.le_of_ble_eq_true hN
  have hw := hA.wanted hg
  unfold wpQuiet
  cases c with
  | true =>
    rw [if_pos hw]
    have hfe := hA.eval hf (hcf rfl)
    have hae := hA.evals ha (hca rfl)
    refine ⟨v, fun w hCw => ?_, h _ (hA.putc hN' true v)⟩
    have hrun : (execOp a.eval { dst := some d, op := .call { callee := .value f, args := xs.toArray, argTypes := ts }, type := ty, pos := pos, after := af, guard := g }).run P w = .ok (.enter F (vs ++ caps).toArray) w := by
      unfold execOp
      simp only [resolve, Deferred.ofValue, hfe, List.map_toArray, hae, Sem.run_bind, Sem.run_pure, Result.andThen_ok, invoke, List.append_toArray, List.nil_append]
      exact hE.run _ w
    unfold Oper.quietAt
    rw [hrun]
    exact ⟨rfl, hC w hCw rfl⟩
  | false =>
    rw [if_neg (by simp [hw])]
    exact h _ (hA.putc hN' false v)
end
attribute [irreducible] W WC KC WQ
end Go.Ag
