/- Words of this claim: more operations: pointers and nil, slices of slices, new slices of a length, smaller of two, walking a text's letters. -/
import Derived.Test.YtpafhjaidpmeeaaGreatDoorMap
import Derived.Laws.MakeOwn
set_option linter.unusedVariables false
namespace Go.Ag
open Go.RowKit

def isPtr (P : Program) (t : TypeId) : Bool := match P.underlying t with | some (.pointer _) => true | _ => false
def isMapT (P : Program) (t : TypeId) : Bool := match P.underlying t with | some (.map _ _) => true | _ => false
theorem isPtr_of {P : Program} {t : TypeId} (h : isPtr P t = true) : ∃ e, P.underlying t = some (.pointer e) := by unfold isPtr at h; split at h <;> simp_all

section
variable {N : Nm} {P : Program} {ops : Array Oper} {Q : Exit → Act → World → Prop} {K : Act → World → Prop} {rest : List Oper} {l : L} {w : World}
  {d : Nat} {ty : TypeId} {pos : String} {af : Array Edge} {g : Option (Nat × Bool)} {c cx cy cz : Bool}

/-- An operation that is not carried out. -/
theorem PS.no {o : Oper} (hg : gd ops l o = some c) (hd : o.dst = some d) (hc : c = false) : PS N P ops l o d c undef := PS.mk hg hd (fun w h => by rw [hc] at h; cases h)
theorem PS.andF {x y : Operand} {b : Bool} (hx : ev l x = some (cx, .bool b)) (hg : gd ops l ⟨some d, .pick x y (.const (.bool false)), ty, pos, af, g⟩ = some c) (hcx : c = true → cx = true) (hb : b = false) : PS N P ops l (⟨some d, .pick x y (.const (.bool false)), ty, pos, af, g⟩) d c (.bool false) :=
  PS.mk hg rfl (fun w hc a ha => by subst hb; simp [execOp, ha.eval hx (hcx hc), asBool]; rfl)
theorem PS.orT {x y : Operand} {b : Bool} (hx : ev l x = some (cx, .bool b)) (hg : gd ops l ⟨some d, .pick x (.const (.bool true)) y, ty, pos, af, g⟩ = some c) (hcx : c = true → cx = true) (hb : b = true) : PS N P ops l (⟨some d, .pick x (.const (.bool true)) y, ty, pos, af, g⟩) d c (.bool true) :=
  PS.mk hg rfl (fun w hc a ha => by subst hb; simp [execOp, ha.eval hx (hcx hc), asBool]; rfl)
/-- A loop whose first round leaves it. -/
theorem WC.once {x : Code} (h : WC N P x (Exit.then (fun _ _ => False) Q) l w) : WC N P (.loop x) Q l w := by
  refine WC.loop (fun n a' w' => Ag N l a' ∧ w' = w) 0 ?_ ?_
  · unfold KC; exact fun a ha => ⟨ha, rfl⟩
  · rintro n a w' ⟨ha, rfl⟩
    unfold WC at h
    refine wp_mono (h a ha) fun e a' w'' hq => ?_
    cases e <;> first | exact hq.elim | exact hq
/-- s[i], where both are known. -/
theorem PS.idxr {x y : Operand} {tx : TypeId} {k : IntKind} {s : ByteArray} {i r : Int} (hx : ev l x = some (cx, .string s)) (hy : ev l y = some (cy, .int k i)) (hg : gd ops l ⟨some d, .index tx x y, ty, pos, af, g⟩ = some c) (hcx : c = true → cx = true) (hcy : c = true → cy = true)
    (hT : isStr P tx = true) (hi : decide (0 ≤ i ∧ i < s.size) = true) (hr : bAt s i.toNat = r) : PS N P ops l (⟨some d, .index tx x y, ty, pos, af, g⟩) d c (.int .u8 r) := by
  rw [← hr]
  exact PS.idxs hx hy hg hcx hcy hT fun _ => of_decide_eq_true hi
theorem run_eqnil {t : TypeId} {e : Nat} (h : P.underlying t = some (.pointer e)) (p : Option Addr) (w : World) : (Op.equal t (.pointer p) (.pointer none)).run P w = .ok p.isNone w := by
  unfold Op.equal
  rw [show Op.maxDepth = 9999 + 1 from rfl]
  unfold Op.equalIn
  cases p <;> simp only [Sem.run_bind, run_underlying h, Result.andThen_ok, Sem.run_pure] <;> rfl
/-- p == nil -/
theorem PS.eqp {x : Operand} {tx tz : TypeId} {p : Option Addr} (hx : ev l x = some (cx, .pointer p)) (hg : gd ops l ⟨some d, .binOp .eql tx x (.const (.pointer none)) tz, ty, pos, af, g⟩ = some c) (hcx : c = true → cx = true) (hp : isPtr P tx = true) :
    PS N P ops l (⟨some d, .binOp .eql tx x (.const (.pointer none)) tz, ty, pos, af, g⟩) d c (.bool p.isNone) := by
  obtain ⟨e, he⟩ := isPtr_of hp
  exact PS.bin (cy := true) hx rfl hg hcx (fun _ => rfl) (fun w => by cases p <;> simp [eqGuard]) (fun w => by simp only [binOp, Sem.run_bind, run_eqnil he, Result.andThen_ok, Sem.run_pure])
theorem PS.nep {x : Operand} {tx tz : TypeId} {p : Option Addr} (hx : ev l x = some (cx, .pointer p)) (hg : gd ops l ⟨some d, .binOp .neq tx x (.const (.pointer none)) tz, ty, pos, af, g⟩ = some c) (hcx : c = true → cx = true) (hp : isPtr P tx = true) :
    PS N P ops l (⟨some d, .binOp .neq tx x (.const (.pointer none)) tz, ty, pos, af, g⟩) d c (.bool (!p.isNone)) := by
  obtain ⟨e, he⟩ := isPtr_of hp
  exact PS.bin (cy := true) hx rfl hg hcx (fun _ => rfl) (fun w => by cases p <;> simp [eqGuard]) (fun w => by simp only [binOp, Sem.run_bind, run_eqnil he, Result.andThen_ok, Sem.run_pure])
/-- min(a, b), max(a, b) -/
theorem PS.mini {x y : Operand} {ts : Array TypeId} {k : IntKind} {a b : Int} (hx : ev l x = some (cx, .int k a)) (hy : ev l y = some (cy, .int k b)) (hg : gd ops l ⟨some d, .call { callee := .builtin .min, args := #[x, y], argTypes := ts }, ty, pos, af, g⟩ = some c) (hcx : c = true → cx = true) (hcy : c = true → cy = true) :
    PS N P ops l ⟨some d, .call { callee := .builtin .min, args := #[x, y], argTypes := ts }, ty, pos, af, g⟩ d c (.int k (min a b)) :=
  PS.mk hg rfl (fun w hc A ha => by
    have : (if b < a then b else a) = min a b := by rw [Int.min_def]; split <;> split <;> omega
    simp [execOp, resolve, invoke, builtin, ha.eval hx (hcx hc), ha.eval hy (hcy hc), Builtin.min_, Builtin.min2, this])
theorem PS.maxi {x y : Operand} {ts : Array TypeId} {k : IntKind} {a b : Int} (hx : ev l x = some (cx, .int k a)) (hy : ev l y = some (cy, .int k b)) (hg : gd ops l ⟨some d, .call { callee := .builtin .max, args := #[x, y], argTypes := ts }, ty, pos, af, g⟩ = some c) (hcx : c = true → cx = true) (hcy : c = true → cy = true) :
    PS N P ops l ⟨some d, .call { callee := .builtin .max, args := #[x, y], argTypes := ts }, ty, pos, af, g⟩ d c (.int k (max a b)) :=
  PS.mk hg rfl (fun w hc A ha => by
    have : (if a < b then b else a) = max a b := by rw [Int.max_def]; split <;> split <;> omega
    simp [execOp, resolve, invoke, builtin, ha.eval hx (hcx hc), ha.eval hy (hcy hc), Builtin.max_, Builtin.max2, this])
/-- s[a:b] of a slice -/
def slA (A : Option Addr) (k a cap : Nat) : Option Addr := if cap = a then A else A.map (·.add (a * k))
theorem run_bound (k : IntKind) (i y : Nat) (code : BoundsCode) (h : i ≤ y) (w : World) : (Instr.sliceBound (.int k (i : Nat)) y code).run P w = .ok i w := by
  unfold Instr.sliceBound
  have h1 : (0 : Int) ≤ (i : Nat) ∧ ((i : Nat) : Int) ≤ (y : Nat) := by omega
  simp [asIntOf, h1.2]
theorem run_slice {t e : Nat} [T : TyI P t] [E : TyI P e] (he : T.i.elem = some e) {A : Option Addr} {n cap : Nat} (lo hi : Option Value) (a b : Nat) (w : World)
    (hb : (hi = none ∧ b = n) ∨ (∃ k, hi = some (.int k (b : Nat)) ∧ b ≤ cap)) (ha : (lo = none ∧ a = 0) ∨ (∃ k, lo = some (.int k (a : Nat)) ∧ a ≤ b)) :
    (Instr.slice t (.slice A n cap) lo hi none).run P w = .ok (.slice (slA A E.i.size a cap) (b - a) (cap - a)) w := by
  unfold Instr.slice
  simp only [Sem.run_bind, run_underlying (T.helem e he), Result.andThen_ok]
  have h : (Instr.sliceBounds true n cap lo hi none).run P w = .ok (a, b, cap) w := by
    unfold Instr.sliceBounds
    rcases hb with ⟨rfl, rfl⟩ | ⟨k, rfl, h1⟩ <;> rcases ha with ⟨rfl, rfl⟩ | ⟨k', rfl, h2⟩
    · simp
    · simp [run_bound _ _ _ _ h2]
    · simp [run_bound _ _ _ _ h1]
    · simp [run_bound _ _ _ _ h1, run_bound _ _ _ _ h2]
  simp only [h, Result.andThen_ok, E.hsize, Sem.run_pure, slA]
theorem PS.slsl {t e : Nat} [T : TyI P t] [E : TyI P e] {x : Operand} {lo hi : Option Operand} {A : Option Addr} {n cap : Nat} (a b : Nat) (he : T.i.elem = some e) (hx : ev l x = some (cx, .slice A n cap)) (hg : gd ops l ⟨some d, .slice t x lo hi none, ty, pos, af, g⟩ = some c) (hcx : c = true → cx = true)
    (hb : c = true → (hi = none ∧ b = n) ∨ (∃ o k c', hi = some o ∧ ev l o = some (c', .int k (b : Nat)) ∧ c' = true ∧ b ≤ cap)) (ha : c = true → (lo = none ∧ a = 0) ∨ (∃ o k c', lo = some o ∧ ev l o = some (c', .int k (a : Nat)) ∧ c' = true ∧ a ≤ b)) :
    PS N P ops l ⟨some d, .slice t x lo hi none, ty, pos, af, g⟩ d c (.slice (slA A E.i.size a cap) (b - a) (cap - a)) :=
  PS.mk hg rfl (fun w hc α hα => by
    have := run_slice (P := P) (t := t) (e := e) he (A := A) (n := n) (cap := cap) (lo.map α.eval) (hi.map α.eval) a b w (by
      rcases hb hc with ⟨rfl, h⟩ | ⟨o, k, c', rfl, h1, h2, h3⟩
      · exact .inl ⟨rfl, h⟩
      · exact .inr ⟨k, by simp [hα.eval h1 h2], h3⟩) (by
      rcases ha hc with ⟨rfl, h⟩ | ⟨o, k, c', rfl, h1, h2, h3⟩
      · exact .inl ⟨rfl, h⟩
      · exact .inr ⟨k, by simp [hα.eval h1 h2], h3⟩)
    simp [execOp, hα.eval hx (hcx hc), Instr.sliceAt, run_underlying (T.helem e he), this])

/-- make([]T, n) -/
theorem W.mks {t e n : Nat} [T : TyI P t] [E : TyI P e] {x : Operand} {k : IntKind} (he : T.i.elem = some e) (hx : ev l x = some (true, .int k (n : Nat))) (hN : Nat.ble (d + 1) N.n = true) (hb : E.i.bytes * n ≤ 281474976710656) (hn : n ≤ maxLen)
    (h : ∀ w', Below w.heap.size w w' → Box w' w.heap.size e (madeCells (bif E.i.agg then Value.agg E.i.zero.toArray else E.i.zero.headD undef).cells (n * E.i.size)).toList → W N P ops Q K rest ((d, true, .slice (some ⟨w.heap.size, 0, none⟩) n n) :: l) w') : W N P ops Q K (⟨some d, .makeSlice t x x, ty, pos, af, none⟩ :: rest) l w :=
  W.opw (c := true) (fun u w' => u = .slice (some ⟨w.heap.size, 0, none⟩) n n ∧ Below w.heap.size w w' ∧ Box w' w.heap.size e (madeCells (bif E.i.agg then Value.agg E.i.zero.toArray else E.i.zero.headD undef).cells (n * E.i.size)).toList) rfl rfl hN (fun _ a ha => by
    obtain ⟨i0, hi, hzz⟩ := Option.map_eq_some_iff.1 E.hinfo
    simp only [Prod.mk.injEq] at hzz
    have h1 := run_make (P := P) w t e i0 _ (T.helem e he) hi hzz.1 k k n n (by omega) (Int.le_refl _) (by rw [hzz.2.2, ← Int.natCast_mul]; exact Int.ofNat_le.2 hb) (by simp only [maxLen] at hn; omega)
    refine ⟨_, w.alloc (.cells (madeCells (bif E.i.agg then Value.agg E.i.zero.toArray else E.i.zero.headD undef).cells (n * E.i.size)) e), ?_, rfl, (Below.refl _ _).alloc (Nat.le_refl _) _, ?_⟩
    · rw [hzz.2.1] at h1
      simp only [Int.toNat_natCast] at h1
      simp [execOp, ha.eval hx rfl, h1]
    · unfold Box
      simpa using heap_alloc_new w _) fun v' w' hv _ => by
    obtain ⟨rfl, h2, h3⟩ := hv rfl
    exact h w' h2 h3

/-- A load from a variable whose cells are known. -/
theorem W.ld1 {t : Nat} [T : TyI P t] {x : Operand} {b o tb : Nat} {cs : List Value} {v : Value} (hx : ev l x = some (cx, .pointer (some ⟨b, o, none⟩))) (hg : gd ops l ⟨some d, .load t x, ty, pos, af, g⟩ = some c) (hcx : c = true → cx = true)
    (hb : Box w b tb cs) (ha : T.i.agg = false) (hv : cs[o]? = some v) (hN : Nat.ble (d + 1) N.n = true) (h : W N P ops Q K rest ((d, c, v) :: l) w) : W N P ops Q K (⟨some d, .load t x, ty, pos, af, g⟩ :: rest) l w := by
  refine W.ld (cs := [v]) hx hg hcx (T.hone ha).symm (fun _ i u hi => ?_) hN ?_
  · cases i with
    | zero => simp at hi; subst hi; exact hb.cell hv
    | succ i => simp at hi
  · rw [ha]; exact h
theorem W.ldA {t : Nat} [T : TyI P t] {x : Operand} {b o tb : Nat} {cs vs : List Value} (hx : ev l x = some (cx, .pointer (some ⟨b, o, none⟩))) (hg : gd ops l ⟨some d, .load t x, ty, pos, af, g⟩ = some c) (hcx : c = true → cx = true)
    (hb : Box w b tb cs) (ha : (T.i.agg && Nat.beq vs.length T.i.size) = true) (hv : (cs.drop o).take T.i.size = vs) (hN : Nat.ble (d + 1) N.n = true) (h : W N P ops Q K rest ((d, c, .agg vs.toArray) :: l) w) : W N P ops Q K (⟨some d, .load t x, ty, pos, af, g⟩ :: rest) l w := by
  rw [Bool.and_eq_true] at ha
  refine W.ld (cs := vs) hx hg hcx (Nat.eq_of_beq_eq_true ha.2) (fun _ => by rw [← hv]; exact hb.part o _) hN ?_
  rw [ha.1]; exact h

/-! In a region that draws, and only reads. -/
theorem WQ.ld1 {K : Act → Prop} {w0 : World} {t : Nat} [T : TyI P t] {x : Operand} {b o tb : Nat} {cs : List Value} {v : Value} (hx : ev l x = some (cx, .pointer (some ⟨b, o, none⟩))) (hg : gd ops l ⟨some d, .load t x, ty, pos, af, g⟩ = some c) (hcx : c = true → cx = true)
    (hb : Box w0 b tb cs) (ha : T.i.agg = false) (hv : cs[o]? = some v) (hN : Nat.ble (d + 1) N.n = true) (h : WQ N P ops (fun w' => Below w0.heap.size w0 w') K rest ((d, c, v) :: l)) : WQ N P ops (fun w' => Below w0.heap.size w0 w') K (⟨some d, .load t x, ty, pos, af, g⟩ :: rest) l := by
  refine WQ.ld (cs := [v]) hx hg hcx (T.hone ha).symm (fun w hw _ i u hi => ?_) hN ?_
  · cases i with
    | zero => simp at hi; subst hi; exact (hb.b hw).cell hv
    | succ i => simp at hi
  · rw [ha]; exact h
theorem WQ.ldA {K : Act → Prop} {w0 : World} {t : Nat} [T : TyI P t] {x : Operand} {b o tb : Nat} {cs vs : List Value} (hx : ev l x = some (cx, .pointer (some ⟨b, o, none⟩))) (hg : gd ops l ⟨some d, .load t x, ty, pos, af, g⟩ = some c) (hcx : c = true → cx = true)
    (hb : Box w0 b tb cs) (ha : (T.i.agg && Nat.beq vs.length T.i.size) = true) (hv : (cs.drop o).take T.i.size = vs) (hN : Nat.ble (d + 1) N.n = true) (h : WQ N P ops (fun w' => Below w0.heap.size w0 w') K rest ((d, c, .agg vs.toArray) :: l)) : WQ N P ops (fun w' => Below w0.heap.size w0 w') K (⟨some d, .load t x, ty, pos, af, g⟩ :: rest) l := by
  rw [Bool.and_eq_true] at ha
  refine WQ.ld (cs := vs) hx hg hcx (Nat.eq_of_beq_eq_true ha.2) (fun w hw _ => by rw [← hv]; exact (hb.b hw).part o _) hN ?_
  rw [ha.1]; exact h
theorem WQ.callb {K : Act → Prop} {w0 : World} {f : Operand} {xs : List Operand} {ts : Array TypeId} {cf ca : Bool} {F : FuncId} {caps : List Value} {vs : List Value} {v : Value}
    (hg : gd ops l { dst := some d, op := .call { callee := .value f, args := xs.toArray, argTypes := ts }, type := ty, pos := pos, after := af, guard := g } = some c) (hN : Nat.ble (d + 1) N.n = true)
    (hf : ev l f = some (cf, .func (.func F) #[] caps.toArray)) (hcf : c = true → cf = true) (ha : evs l xs = some (ca, vs)) (hca : c = true → ca = true) (hE : Enters P F)
    (hC : ∀ w, Below w0.heap.size w0 w → c = true → Calls P F (vs ++ caps).toArray w fun e w' => e = .returned v ∧ Below w.heap.size w w')
    (h : WQ N P ops (fun w' => Below w0.heap.size w0 w') K rest ((d, c, v) :: l)) :
    WQ N P ops (fun w' => Below w0.heap.size w0 w') K ({ dst := some d, op := .call { callee := .value f, args := xs.toArray, argTypes := ts }, type := ty, pos := pos, after := af, guard := g } :: rest) l :=
  WQ.callc hg hN hf hcf ha hca hE (fun w hw hc => (hC w hw hc).mono fun e w' ⟨h1, h2⟩ => ⟨h1, hw.trans (h2.mono hw.size)⟩) h

/-! ### A text's letters -/
def SItr (w : World) (r : Nat) (s : ByteArray) (p : Nat) : Prop := w.heap[r]? = some (.stringIter s p)
theorem SItr.lt {r p : Nat} {s : ByteArray} (h : SItr w r s p) : r < w.heap.size := (Array.getElem?_eq_some_iff.1 h).1
theorem SItr.b {r p : Nat} {s : ByteArray} {w' : World} (h : SItr w r s p) (hB : Below w.heap.size w w') : SItr w' r s p := (hB.block r h.lt).trans h
theorem W.rgs {t : Nat} {x : Operand} {s : ByteArray} (ht : isStr P t = true) (hx : ev l x = some (true, .string s)) (hN : Nat.ble (d + 1) N.n = true)
    (h : ∀ w', Below w.heap.size w w' → SItr w' w.heap.size s 0 → W N P ops Q K rest ((d, true, .pointer (some ⟨w.heap.size, 0, none⟩)) :: l) w') : W N P ops Q K (⟨some d, .range t x, ty, pos, af, none⟩ :: rest) l w :=
  W.opw (c := true) (fun u w' => u = .pointer (some ⟨w.heap.size, 0, none⟩) ∧ Below w.heap.size w w' ∧ SItr w' w.heap.size s 0) rfl rfl hN (fun _ a ha => by
    refine ⟨_, w.alloc (.stringIter s 0), ?_, rfl, (Below.refl _ _).alloc (Nat.le_refl _) _, heap_alloc_new w _⟩
    simp only [execOp, ha.eval hx rfl, Instr.range, Sem.run_bind, run_underlying (isStr_of ht), Result.andThen_ok, Sem.run_pure, run_newObj]
    rfl) fun v' w' h1 _ => by
    obtain ⟨rfl, h2, h3⟩ := h1 rfl
    exact h w' h2 h3
theorem W.nxs {x : Operand} {r p : Nat} {s : ByteArray} (hx : ev l x = some (true, .pointer (some ⟨r, 0, none⟩))) (hi : SItr w r s p) (hN : Nat.ble (d + 1) N.n = true)
    (h0 : s.size ≤ p → W N P ops Q K rest ((d, true, .tuple #[.bool false]) :: l) w)
    (h1 : p < s.size → ∀ w', Chg r w w' → SItr w' r s (p + (Utf8.decode s p).2) → W N P ops Q K rest ((d, true, .tuple #[.bool true, .int .i64 p, .int .i32 (Utf8.decode s p).1]) :: l) w') : W N P ops Q K (⟨some d, .next x true, ty, pos, af, none⟩ :: rest) l w :=
  W.opw (c := true) (fun u w' => (s.size ≤ p ∧ u = .tuple #[.bool false] ∧ w' = w) ∨ (p < s.size ∧ u = .tuple #[.bool true, .int .i64 p, .int .i32 (Utf8.decode s p).1] ∧ Chg r w w' ∧ SItr w' r s (p + (Utf8.decode s p).2))) rfl rfl hN (fun _ a ha => by
    have hi' : w.heap[r]? = some (.stringIter s p) := hi
    have hg : (getObj r).run P w = .ok (.stringIter s p) w := by simp [getObj, Sem.run, hi']
    have hst : ∀ o', (setObj r o').run P w = .ok () { w with heap := w.heap.setIfInBounds r o' } := fun o' => by simp [setObj, Sem.run, hi']
    rcases Nat.lt_or_ge p s.size with hlt | hge
    · refine ⟨_, _, ?_, .inr ⟨hlt, rfl, chg_set w r (.stringIter s (p + (Utf8.decode s p).2)), ?_⟩⟩
      · simp [execOp, ha.eval hx rfl, Instr.next, hg, hlt, hst, goInt]
      · exact getElem?_setIf _ _ _ hi.lt
    · refine ⟨_, w, ?_, .inl ⟨hge, rfl, rfl⟩⟩
      simp [execOp, ha.eval hx rfl, Instr.next, hg, Nat.not_lt.2 hge]) fun v' w' hv _ => by
    rcases hv rfl with ⟨h, rfl, rfl⟩ | ⟨h, rfl, h2, h3⟩
    · exact h0 h
    · exact h1 h w' h2 h3
end
end Go.Ag
