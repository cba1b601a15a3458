/- Words of this claim: memory in a walk: boxes (variables in memory), loads, stores, fields, elements. -/
import Derived.Test.YtpafhjaidpmeeaaGreatDoorOps
import Derived.Laws.Rows
import Derived.Laws.Tables
set_option linter.unusedVariables false
namespace Go.Ag
open Go.RowKit

/-- What is to be known of a type: has it parts; its cells, its bytes; its zero value; a slice's element; a struct's fields: type, offset, cells. -/
structure TI where
  agg : Bool
  size : Nat
  bytes : Nat
  zero : List Value
  elem : Option Nat
  flds : List (Nat × Nat × Nat)

class TyI (P : Program) (t : Nat) where
  i : TI
  hagg : ∀ w, (isAgg t).run P w = .ok i.agg w
  hsize : ∀ w, (sizeOf t).run P w = .ok i.size w
  hzero : ∀ w, (zeroValue t).run P w = .ok (bif i.agg then .agg i.zero.toArray else i.zero.headD undef) w
  hzlen : i.zero.length = i.size
  helem : ∀ e, i.elem = some e → P.underlying t = some (.slice e)
  hinfo : (P.info? t).map (fun x => (x.zero, x.size, x.bytes)) = some (some (bif i.agg then .agg i.zero.toArray else i.zero.headD undef), i.size, i.bytes)
  hone : i.agg = false → i.size = 1
  hzc : ∀ v ∈ i.zero, v.oneCell' = true
  hflds : i.flds ≠ [] → ∃ fs, P.underlying t = some (.struct fs) ∧ fs.toList.map (fun f => (f.type, f.offset)) = i.flds.map (fun f => (f.1, f.2.1)) ∧
    fs.toList.mapM (fun f => (P.info? f.type).map fun x => (f.offset, x.size)) = some (i.flds.map (·.2)) ∧ ∀ f ∈ i.flds, f.2.2 ≠ 0

theorem TyI.zero_cells {P : Program} {t : Nat} (T : TyI P t) : (bif T.i.agg then Value.agg T.i.zero.toArray else T.i.zero.headD undef).cells = T.i.zero.toArray := by
  cases ha : T.i.agg with
  | true => rfl
  | false =>
    have h1 := T.hone ha
    have h2 := T.hzlen
    have h3 := T.hzc
    rw [h1] at h2
    match hz : T.i.zero, h2 with
  | [z], _ =>
      have h4 := h3 z (by rw [hz]; simp)
      show z.cells = #[z]
      cases z <;> first | rfl | (simp [Value.oneCell'] at h4)

/-- A block of these cells, none of them for reading alone. -/
def Box (w : World) (b : Nat) (t : TypeId) (cs : List Value) : Prop := w.heap[b]? = some (.cells cs.toArray t (0, 0))
/-- Cells, one behind the other. -/
def Cells (w : World) (b o : Nat) (cs : List Value) : Prop := ∀ i v, cs[i]? = some v → w.cell? ⟨b, o + i, none⟩ = some v
/-- Only block b has turned. -/
structure Chg (b : Nat) (w w' : World) : Prop where
  os : w'.os = w.os
  tape : w'.tape = w.tape
  output : w'.output = w.output
  size : w'.heap.size = w.heap.size
  block : ∀ k, k ≠ b → w'.heap[k]? = w.heap[k]?
theorem Chg.below {b : Nat} {w w' : World} (h : Chg b w w') {B : Nat} (hB : B ≤ b) : Below B w w' := ⟨h.os, h.tape, h.output, by rw [h.size]; exact Nat.le_refl _, fun k hk => h.block k (by omega)⟩
theorem Box.lt {w : World} {b t : Nat} {cs : List Value} (h : Box w b t cs) : b < w.heap.size := (Array.getElem?_eq_some_iff.1 h).1
theorem Box.below {w w' : World} {B b t : Nat} {cs : List Value} (h : Box w b t cs) (hB : Below B w w') (hb : b < B) : Box w' b t cs := (hB.block b hb).trans h
theorem Box.b {w w' : World} {b t : Nat} {cs : List Value} (h : Box w b t cs) (hB : Below w.heap.size w w') : Box w' b t cs := h.below hB h.lt
theorem Box.chg {w w' : World} {b b' t : Nat} {cs : List Value} (h : Box w b t cs) (hc : Chg b' w w') (hne : b ≠ b') : Box w' b t cs := (hc.block b hne).trans h
theorem Box.cell {w : World} {b t : Nat} {cs : List Value} (h : Box w b t cs) {i : Nat} {v : Value} (hi : cs[i]? = some v) : w.cell? ⟨b, i, none⟩ = some v := by
  unfold Box at h
  simp only [World.cell?, h]
  simpa using hi
theorem Box.cells {w : World} {b t : Nat} {cs : List Value} (h : Box w b t cs) : Cells w b 0 cs := fun i v hi => by rw [Nat.zero_add]; exact h.cell hi
theorem Box.part {w : World} {b t : Nat} {cs : List Value} (h : Box w b t cs) (o n : Nat) : Cells w b o ((cs.drop o).take n) := fun i v hi => h.cell (by
  rw [List.getElem?_take] at hi
  split at hi
  · rwa [List.getElem?_drop] at hi
  · cases hi)
theorem Box.frozen {w : World} {b t : Nat} {cs : List Value} (h : Box w b t cs) (o : Nat) : w.frozen? ⟨b, o, none⟩ = false := by
  unfold Box at h
  simp [World.frozen?, h]
theorem Cells.b {w w' : World} {b o : Nat} {cs : List Value} (h : Cells w b o cs) {B : Nat} (hB : Below B w w') (hb : b < B) : Cells w' b o cs := fun i v hi => (World.cell?_of_block (w := w) (hB.block b hb)).trans (h i v hi)
theorem Cells.take {w : World} {b o : Nat} {cs : List Value} (h : Cells w b o cs) (n : Nat) : Cells w b o (cs.take n) := fun i v hi => h i v (by
  rw [List.getElem?_take] at hi
  split at hi
  · exact hi
  · cases hi)
theorem Cells.drop {w : World} {b o : Nat} {cs : List Value} (h : Cells w b o cs) (n : Nat) : Cells w b (o + n) (cs.drop n) := fun i v hi => by
  rw [List.getElem?_drop] at hi
  rw [Nat.add_assoc]
  exact h _ v hi

theorem load_cells {P : Program} (w : World) (b o : Nat) : ∀ (cs : List Value) (i : Nat) (acc : Array Value), Cells w b (o + i) cs →
    (loadCellsFrom ⟨b, o, none⟩ i cs.length acc).run P w = .ok (acc ++ cs.toArray) w
  | [], i, acc, h => by simp [loadCellsFrom]
  | v :: cs, i, acc, h => by
    have h0 : w.cell? ((⟨b, o, none⟩ : Addr).add i) = some v := by
      have := h 0 v rfl
      unfold Addr.add
      split
      · rename_i hi; subst hi; simpa using this
      · simpa using this
    have ih := load_cells (P := P) w b o cs (i + 1) (acc.push v) (by have := h.drop 1; simpa [Nat.add_assoc] using this)
    simp only [List.length_cons, loadCellsFrom, Sem.run_bind, run_load, h0, Result.andThen, ih]
    simp

section
variable {N : Nm} {P : Program} {ops : Array Oper} {Q : Exit → Act → World → Prop} {K : Act → World → Prop} {rest : List Oper} {l : L} {w : World}
  {d : Nat} {ty : TypeId} {pos : String} {af : Array Edge} {g : Option (Nat × Bool)} {c cx cy cz : Bool}

theorem run_loadv {t : Nat} [T : TyI P t] {w : World} {b o : Nat} {cs : List Value} (hs : cs.length = T.i.size) (hc : Cells w b o cs) :
    (loadVar t ⟨b, o, none⟩).run P w = .ok (bif T.i.agg then .agg cs.toArray else cs.headD undef) w := by
  unfold loadVar
  simp only [Sem.run_bind, T.hagg, Result.andThen_ok]
  cases ha : T.i.agg with
  | true =>
    have := load_cells (P := P) w b o cs 0 #[] hc
    simp only [if_true, Sem.run_bind, T.hsize, Result.andThen_ok, loadCells, ← hs, this, Sem.run_pure, cond]
    simp
  | false =>
    have h1 := T.hone ha
    match cs, hs with
    | [v], _ =>
      have h0 := hc 0 v rfl
      simp only [Nat.add_zero] at h0
      simp [run_load, h0]
    | [], hs => simp at hs; omega
    | _ :: _ :: _, hs => simp at hs; omega

/-- A list with a part in the place of what stood there. -/
def splice (cs : List Value) (o : Nat) (vs : List Value) : List Value := cs.take o ++ vs ++ cs.drop (o + vs.length)
def vcs : Value → List Value
  | .agg cs => cs.toList
  | v => [v]
theorem vcs_cells (v : Value) : v.cells.toList = vcs v := by cases v <;> rfl
theorem splice_cons (cs : List Value) (o : Nat) (v : Value) (vs : List Value) (h : o < cs.length) : splice (cs.set o v) (o + 1) vs = splice cs o (v :: vs) := by
  unfold splice
  have h1 : (cs.set o v).take (o + 1) = cs.take o ++ [v] := by
    rw [List.take_succ_eq_append_getElem (by simpa using h), List.take_set_of_le (Nat.le_refl _)]
    simp
  have h2 : (cs.set o v).drop (o + 1 + vs.length) = cs.drop (o + (v :: vs).length) := by
    rw [List.drop_set_of_lt (by omega)]
    simp [Nat.add_comm, Nat.add_left_comm]
  rw [h1, h2]
  simp
theorem splice_length (cs : List Value) (o : Nat) (vs : List Value) (h : o + vs.length ≤ cs.length) : (splice cs o vs).length = cs.length := by
  unfold splice
  simp
  omega
theorem splice_nil (cs : List Value) (o : Nat) : splice cs o [] = cs := by simp [splice]

theorem Box.set {w : World} {b t : Nat} {cs : List Value} (h : Box w b t cs) (o : Nat) (v : Value) : Box (w.setCell ⟨b, o, none⟩ v) b t (cs.set o v) ∧ Chg b w (w.setCell ⟨b, o, none⟩ v) := by
  constructor
  · unfold Box at h ⊢
    simp only [World.setCell, Array.getElem?_modify, if_true, h, Option.map_some]
    simp
  · refine ⟨rfl, rfl, rfl, by simp [World.setCell], fun k hk => ?_⟩
    simp only [World.setCell, Array.getElem?_modify]
    rw [if_neg (by omega)]
theorem Chg.refl (b : Nat) (w : World) : Chg b w w := ⟨rfl, rfl, rfl, rfl, fun _ _ => rfl⟩
theorem Chg.trans {b : Nat} {x y z : World} (h : Chg b x y) (k : Chg b y z) : Chg b x z := ⟨k.os.trans h.os, k.tape.trans h.tape, k.output.trans h.output, k.size.trans h.size, fun i hi => (k.block i hi).trans (h.block i hi)⟩

theorem store_cells {b t : Nat} : ∀ (vs : List Value) (w : World) (cs : List Value) (o i : Nat), Box w b t cs → o + i + vs.length ≤ cs.length → (∀ v ∈ vs, v.oneCell' = true) →
    ∃ w', (storeCells ⟨b, o, none⟩ vs i).run P w = .ok () w' ∧ Chg b w w' ∧ Box w' b t (splice cs (o + i) vs)
  | [], w, cs, o, i, hb, hl, h1 => ⟨w, rfl, Chg.refl _ _, by rw [splice_nil]; exact hb⟩
  | v :: vs, w, cs, o, i, hb, hl, h1 => by
    simp only [List.length_cons] at hl
    have ha : (⟨b, o, none⟩ : Addr).add i = ⟨b, o + i, none⟩ := by unfold Addr.add; split <;> simp_all
    have hc : w.cell? ⟨b, o + i, none⟩ = some (cs[o + i]'(by omega)) := hb.cell (List.getElem?_eq_getElem (by omega))
    obtain ⟨h2, h3⟩ := hb.set (o + i) v
    obtain ⟨w', hr, hch, hbx⟩ := store_cells vs _ (cs.set (o + i) v) o (i + 1) h2 (by simp; omega) (fun u hu => h1 u (List.mem_cons_of_mem _ hu))
    refine ⟨w', ?_, h3.trans hch, ?_⟩
    · simp only [storeCells, Sem.run_bind, ha, run_store P w _ v .plain (h1 v List.mem_cons_self), hc, hb.frozen, Bool.false_eq_true, if_false, Result.andThen_ok]
      exact hr
    · rw [← splice_cons cs (o + i) v vs (by omega)]
      exact hbx

theorem run_storev {t : Nat} [T : TyI P t] {w : World} {b o tb : Nat} {cs : List Value} {v : Value} (hs : (vcs v).length = T.i.size) (hb : Box w b tb cs) (ho : o + (vcs v).length ≤ cs.length) (h1 : ∀ u ∈ vcs v, u.oneCell' = true) :
    ∃ w', (storeVar t ⟨b, o, none⟩ v).run P w = .ok () w' ∧ Chg b w w' ∧ Box w' b tb (splice cs o (vcs v)) := by
  obtain ⟨w', hr, hc, hx⟩ := store_cells (P := P) (vcs v) w cs o 0 hb (by simpa using ho) h1
  refine ⟨w', ?_, hc, hx⟩
  have hsz : v.cells.size = T.i.size := by rw [← hs, ← vcs_cells]; simp
  unfold storeVar
  simp only [Sem.run_bind, T.hsize, Result.andThen_ok, hsz, ne_eq, not_true_eq_false, if_false, vcs_cells]
  exact hr

theorem mapM_at {α β : Type} : ∀ (xs : List α) (f : α → Option β) (ys : List β), xs.mapM f = some ys → ∀ (i : Nat) (x : α), xs[i]? = some x → ∃ y, f x = some y ∧ ys[i]? = some y
  | [], f, ys, h, i, x, hx => by simp at hx
  | a :: xs, f, ys, h, i, x, hx => by
    simp only [List.mapM_cons, Option.bind_eq_bind, Option.bind_eq_some_iff, Option.pure_def, Option.some.injEq] at h
    obtain ⟨y, hy, zs, hz, rfl⟩ := h
    cases i with
    | zero => simp at hx; subst hx; exact ⟨y, hy, rfl⟩
    | succ i => simpa using mapM_at xs f zs hz i x (by simpa using hx)

/-! ### Operations -/
/-- A load; in every world of a class, or in the one at hand. -/
theorem W.ld {t : Nat} [T : TyI P t] {x : Operand} {b o : Nat} {cs : List Value} (hx : ev l x = some (cx, .pointer (some ⟨b, o, none⟩))) (hg : gd ops l ⟨some d, .load t x, ty, pos, af, g⟩ = some c) (hcx : c = true → cx = true)
    (hs : cs.length = T.i.size) (hc : c = true → Cells w b o cs) (hN : Nat.ble (d + 1) N.n = true)
    (h : W N P ops Q K rest ((d, c, bif T.i.agg then .agg cs.toArray else cs.headD undef) :: l) w) : W N P ops Q K (⟨some d, .load t x, ty, pos, af, g⟩ :: rest) l w :=
  W.op hg rfl hN (fun hcc a ha => by simp [execOp, ha.eval hx (hcx hcc), Instr.loadAt, Instr.sureAddr, run_loadv hs (hc hcc)]) h
theorem WQ.ld {C : World → Prop} {K : Act → Prop} {t : Nat} [T : TyI P t] {x : Operand} {b o : Nat} {cs : List Value} (hx : ev l x = some (cx, .pointer (some ⟨b, o, none⟩))) (hg : gd ops l ⟨some d, .load t x, ty, pos, af, g⟩ = some c) (hcx : c = true → cx = true)
    (hs : cs.length = T.i.size) (hc : ∀ w, C w → c = true → Cells w b o cs) (hN : Nat.ble (d + 1) N.n = true)
    (h : WQ N P ops C K rest ((d, c, bif T.i.agg then .agg cs.toArray else cs.headD undef) :: l)) : WQ N P ops C K (⟨some d, .load t x, ty, pos, af, g⟩ :: rest) l :=
  WQ.op hg rfl hN (fun w hw hcc a ha => by simp [execOp, ha.eval hx (hcx hcc), Instr.loadAt, Instr.sureAddr, run_loadv hs (hc w hw hcc)]) h
theorem W.sto {t : Nat} [T : TyI P t] {x y : Operand} {b o tb : Nat} {cs : List Value} {v : Value} (hx : ev l x = some (true, .pointer (some ⟨b, o, none⟩))) (hy : ev l y = some (true, v))
    (hb : Box w b tb cs) (hs : (vcs v).length = T.i.size) (ho : o + (vcs v).length ≤ cs.length) (h1 : ∀ u ∈ vcs v, u.oneCell' = true)
    (h : ∀ w', Chg b w w' → Box w' b tb (splice cs o (vcs v)) → W N P ops Q K rest l w') : W N P ops Q K (⟨none, .store t x y, ty, pos, af, none⟩ :: rest) l w :=
  W.st (fun w' => Chg b w w' ∧ Box w' b tb (splice cs o (vcs v))) rfl rfl (fun a ha => by
    obtain ⟨w', hr, h2, h3⟩ := run_storev (P := P) hs hb ho h1
    exact ⟨w', by simp [execOp, ha.eval hx rfl, ha.eval hy rfl, Instr.storeAt, Instr.sureAddr, hr], h2, h3⟩) fun w' ⟨h2, h3⟩ => h w' h2 h3
/-- A new variable. -/
theorem W.box {t : Nat} {x : Operand} {v : Value} (hx : ev l x = some (true, v)) (hN : Nat.ble (d + 1) N.n = true)
    (h : ∀ b w', w.heap.size ≤ b → Below w.heap.size w w' → Box w' b t (vcs v) → W N P ops Q K rest ((d, true, .pointer (some ⟨b, 0, none⟩)) :: l) w') : W N P ops Q K (⟨some d, .box t x, ty, pos, af, none⟩ :: rest) l w :=
  W.opw (c := true) (fun u w' => ∃ b, u = .pointer (some ⟨b, 0, none⟩) ∧ w.heap.size ≤ b ∧ Below w.heap.size w w' ∧ Box w' b t (vcs v)) rfl rfl hN (fun _ a ha => by
    refine ⟨.pointer (some ⟨w.heap.size, 0, none⟩), w.alloc (.cells v.cells t), ?_, w.heap.size, rfl, Nat.le_refl _, (Below.refl _ _).alloc (Nat.le_refl _) _, ?_⟩
    · simp only [execOp, ha.eval hx rfl, Instr.box, newVar, newRow, Sem.run_bind, run_newObj, Sem.run_pure, Result.andThen_ok]; rfl
    · unfold Box
      rw [← vcs_cells]
      simpa using heap_alloc_new w (.cells v.cells t)) fun v' w' h1 _ => by
    obtain ⟨b, rfl, h2, h3, h4⟩ := h1 rfl
    exact h b w' h2 h3 h4
theorem W.alo {t : Nat} [T : TyI P t] (hN : Nat.ble (d + 1) N.n = true)
    (h : ∀ b w', w.heap.size ≤ b → Below w.heap.size w w' → Box w' b t T.i.zero → W N P ops Q K rest ((d, true, .pointer (some ⟨b, 0, none⟩)) :: l) w') : W N P ops Q K (⟨some d, .alloc t, ty, pos, af, none⟩ :: rest) l w :=
  W.opw (c := true) (fun u w' => ∃ b, u = .pointer (some ⟨b, 0, none⟩) ∧ w.heap.size ≤ b ∧ Below w.heap.size w w' ∧ Box w' b t T.i.zero) rfl rfl hN (fun _ a ha => by
    refine ⟨.pointer (some ⟨w.heap.size, 0, none⟩), w.alloc (.cells T.i.zero.toArray t), ?_, w.heap.size, rfl, Nat.le_refl _, (Below.refl _ _).alloc (Nat.le_refl _) _, heap_alloc_new w _⟩
    have hz := T.zero_cells
    simp only [execOp, Instr.alloc, newVar, newRow, Sem.run_bind, T.hzero, hz, run_newObj, Sem.run_pure, Result.andThen_ok]; rfl) fun v' w' h1 _ => by
    obtain ⟨b, rfl, h2, h3, h4⟩ := h1 rfl
    exact h b w' h2 h3 h4
/-- x.f, x the address of a struct -/
theorem PS.fld {t f : Nat} [T : TyI P t] {x : Operand} {b o : Nat} {q : Nat × Nat × Nat} (hx : ev l x = some (cx, .pointer (some ⟨b, o, none⟩))) (hg : gd ops l ⟨some d, .fieldAddr t x f, ty, pos, af, g⟩ = some c) (hcx : c = true → cx = true)
    (hf : T.i.flds[f]? = some q) : PS N P ops l ⟨some d, .fieldAddr t x f, ty, pos, af, g⟩ d c (.pointer (some ⟨b, o + q.2.1, none⟩)) :=
  PS.mk hg rfl (fun w hc a ha => by
    obtain ⟨fs, hu, h1, h2, h3⟩ := T.hflds (by intro e; rw [e] at hf; simp at hf)
    obtain ⟨fd, hfd, hof⟩ : ∃ fd, fs[f]? = some fd ∧ fd.offset = q.2.1 := by
      have := congrArg (·[f]?) h1
      simp only [List.getElem?_map, hf, Option.map_some] at this
      cases hx : fs.toList[f]? with
      | none => rw [hx] at this; simp at this
      | some fd =>
        rw [hx] at this
        simp only [Option.map_some, Option.some.injEq, Prod.mk.injEq] at this
        exact ⟨fd, by simpa using hx, this.2⟩
    have hsz : ∃ n, (sizeOf fd.type).run P w = .ok n w ∧ n ≠ 0 := by
      have hm := mapM_at fs.toList _ _ h2 f fd (by simpa using hfd)
      obtain ⟨y, hy1, hy2⟩ := hm
      simp only [List.getElem?_map, hf, Option.map_some, Option.some.injEq] at hy2
      cases hi : P.info? fd.type with
      | none => rw [hi] at hy1; simp at hy1
      | some inf =>
        rw [hi] at hy1
        simp only [Option.map_some, Option.some.injEq] at hy1
        refine ⟨inf.size, by simp [sizeOf, typeInfo, hi], ?_⟩
        have := h3 q (List.mem_of_getElem? hf)
        rw [← hy2] at hy1
        rw [← hy1] at this
        exact this
    obtain ⟨n', hn1, hn2⟩ := hsz
    have hadd : (⟨b, o, none⟩ : Addr).add q.2.1 = ⟨b, o + q.2.1, none⟩ := by unfold Addr.add; split <;> simp_all
    simp [execOp, ha.eval hx (hcx hc), Instr.fieldAt, run_underlying hu, hfd, Instr.sureAddr, fieldPlace, hn1, hn2, hof, hadd])
end
end Go.Ag
