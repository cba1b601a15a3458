/- Words of this claim: rows and slices once more: what is appended read as a tree, new slices as trees, structs. -/
import Derived.Test.YtpafhjaidpmeeaaGreatDoorDraw
import Derived.Deep.Upon
set_option linter.unusedVariables false
namespace Go.Ag
open Go.RowKit

def T.one : T → Bool
  | .s v => v.oneCell'
  | .l _ _ => true
theorem Rs.one {w : World} {S : Nat → Prop} : ∀ {ts : List T} {vs : List Value}, Rs w S ts vs → ts.all T.one = true → ∀ u ∈ vs, u.oneCell' = true
  | [], vs, h, _, u, hu => by simp only [Rs] at h; subst h; cases hu
  | t :: ts, vs, h, ho, u, hu => by
    simp only [Rs] at h
    obtain ⟨v, us, rfl, h1, h2⟩ := h
    simp only [List.all_cons, Bool.and_eq_true] at ho
    rcases List.mem_cons.1 hu with rfl | hu
    · cases t with
      | s x => simp only [R] at h1; subst h1; exact ho.1
      | l n ts' => simp only [R] at h1; obtain ⟨A, c, vs, rfl, _⟩ := h1; rfl
    · exact Rs.one h2 ho.2 u hu
theorem R.slice {w : World} {S : Nat → Prop} {n : Nat} {ts : List T} {u : Value} (h : R w S (.l n ts) u) : ∃ A c, u = .slice A n c ∧ n ≤ c ∧ c ≤ maxLen := by
  simp only [R] at h
  obtain ⟨A, c, vs, h1, h2, h3, _⟩ := h
  exact ⟨A, c, h1, h2, h3⟩
theorem R.nil (w : World) (S : Nat → Prop) : R w S (.l 0 []) (.slice none 0 0) := by
  simp only [R, Rs]
  exact ⟨none, 0, [], rfl, Nat.le_refl _, by simp [maxLen], rfl, fun h => absurd rfl h⟩
/-- Cells of a block as a slice. -/
theorem R.ofCells {w : World} {S : Nat → Prop} {n c g o : Nat} {ts : List T} {vs : List Value} (hr : Rs w S ts vs) (hc : Cells w g o vs) (hg : S g) (hn : n ≤ c) (hm : c ≤ maxLen) : R w S (.l n ts) (.slice (some ⟨g, o, none⟩) n c) := by
  simp only [R]
  exact ⟨_, c, vs, rfl, hn, hm, hr, fun _ => ⟨g, o, rfl, hg, fun i v hi => hc i v hi⟩⟩

/-! ### Colours -/
theorem paint_lt {g : Col} {n c k : Nat} (h : k < n) : paint g n c k = g k := by simp [paint, h]
theorem paint_ge {g : Col} {n c k : Nat} (h : n ≤ k) : paint g n c k = c := by simp [paint, Nat.not_lt.2 h]
theorem Ice.paint {w w' : World} {g : Col} {c : Nat} (hB : w.heap.size ≤ w'.heap.size) : ∀ k, Ice w g k → Ice w' (Go.Ag.paint g w.heap.size c) k := fun k hk => ⟨Nat.lt_of_lt_of_le hk.1 hB, (paint_lt hk.1).trans hk.2⟩
theorem OwnC.new {w w' : World} {g : Col} {base e k n c : Nat} {ts : List T} {v : Value} (hc : c ≠ 0) (hB : Below w.heap.size w w') (hv : v.ownBlock = some w.heap.size) (ho : Own w' base (Ice w g) e k v n ts) : OwnC base e k n c ts v w' (paint g w.heap.size c) := by
  refine ⟨ho.wide (Ice.paint hB.size) fun b hb hi => ?_, fun b hb => ?_⟩
  · rw [hv] at hb; injection hb with hb; subst hb
    exact hc ((paint_ge (Nat.le_refl _)).symm.trans hi.2)
  · rw [hv] at hb; injection hb with hb; subst hb
    exact paint_ge (Nat.le_refl _)
theorem OwnC.app {w w' : World} {g : Col} {base e k n n' c : Nat} {ts ts' : List T} {v v' : Value} (hc : c ≠ 0) (hO : OwnC base e k n c ts v w g) (hg : w.grownBy w' v.ownBlock) (ho : Own w' base (Ice w g) e k v' n' ts') (hor : v'.ownBlock = v.ownBlock ∨ v'.ownBlock = some w.heap.size) :
    Fr c w w' g (paint g w.heap.size c) ∧ OwnC base e k n' c ts' v' w' (paint g w.heap.size c) := by
  refine ⟨⟨hg.os, hg.tape, hg.output, hg.size, fun k hk => paint_lt hk, fun k hk hck => hg.block k hk fun e => ?_⟩, ?_⟩
  · rcases hck with h | h
    · exact hc h
    · exact h (hO.2 k e.symm)
  · have hcol : ∀ b, v'.ownBlock = some b → paint g w.heap.size c b = c := fun b hb => by
      rcases hor with h | h
      · rw [h] at hb
        rw [paint_lt (hO.1.lt b hb).2]; exact hO.2 b hb
      · rw [h] at hb; injection hb with hb; subst hb; exact paint_ge (Nat.le_refl _)
    exact ⟨ho.wide (Ice.paint hg.size) fun b hb hi => hc ((hcol b hb).symm.trans hi.2), hcol⟩
/-- A variable of the call's own, at whatever block. -/
def BoxC (base t c : Nat) (cs : List Value) : Fact := fun v w g => ∃ b, v = .pointer (some ⟨b, 0, none⟩) ∧ base ≤ b ∧ Box w b t cs ∧ g b = c
theorem stable_box (base t c : Nat) (cs : List Value) : Stable c (BoxC base t c cs) := fun v w w' g g' hs hg hb ⟨b, h1, h2, h3, h4⟩ =>
  ⟨b, h1, h2, (hb b h3.lt (.inr h4)).trans h3, (hg b h3.lt).trans h4⟩
theorem BoxC.new {w w' : World} {g : Col} {base t c b : Nat} {cs : List Value} (hB : Below w.heap.size w w') (hb : w.heap.size ≤ b) (hw : base ≤ w.heap.size) (hx : Box w' b t cs) : BoxC base t c cs (.pointer (some ⟨b, 0, none⟩)) w' (paint g w.heap.size c) :=
  ⟨b, rfl, Nat.le_trans hw hb, hx, paint_ge hb⟩
/-- A struct's value whose cells read as the trees. -/
def RA (w : World) (S : Nat → Prop) (ts : List T) (u : Value) : Prop := ∃ cs, u = .agg cs.toArray ∧ Rs w S ts cs
theorem RA.mono {w w' : World} {S S' : Nat → Prop} {ts : List T} {u : Value} (h : RA w S ts u) (hS : ∀ k, S k → S' k) (hk : Kept S w w') : RA w' S' ts u := by
  obtain ⟨cs, h1, h2⟩ := h
  exact ⟨cs, h1, h2.mono hS hk⟩
theorem stable_ra (c : Nat) (ts : List T) : Stable c (fun v w g => RA w (Ice w g) ts v) := fun v w w' g g' hs hg hb h =>
  h.mono (fun k hk => ⟨Nat.lt_of_lt_of_le hk.1 hs, (hg k hk.1).trans hk.2⟩) (fun k hk => hb k hk.1 (.inl hk.2))
/-- What was frozen at the beginning reads as it did. -/
theorem Fr0.R {w0 w : World} {S : Nat → Prop} {g : Col} (hF : Fr0 w0 w (icol S) g) (hS : ∀ b, S b → b < w0.heap.size) {t : T} {u : Value} (h : R w0 S t u) : Go.Ag.R w (Ice w g) t u :=
  h.mono (fun k hk => ⟨Nat.lt_of_lt_of_le (hS k hk) hF.size, (hF.col k (hS k hk)).trans (icol_zero.2 hk)⟩) fun k hk => hF.block k (hS k hk) (icol_or S k)
theorem Fr0.Rs {w0 w : World} {S : Nat → Prop} {g : Col} (hF : Fr0 w0 w (icol S) g) (hS : ∀ b, S b → b < w0.heap.size) {ts : List T} {us : List Value} (h : Rs w0 S ts us) : Go.Ag.Rs w (Ice w g) ts us :=
  h.mono (fun k hk => ⟨Nat.lt_of_lt_of_le (hS k hk) hF.size, (hF.col k (hS k hk)).trans (icol_zero.2 hk)⟩) fun k hk => hF.block k (hS k hk) (icol_or S k)
theorem Fr0.box {w0 w : World} {S : Nat → Prop} {g : Col} (hF : Fr0 w0 w (icol S) g) {b t : Nat} {cs : List Value} (h : Box w0 b t cs) : Box w b t cs := (hF.block b h.lt (icol_or S b)).trans h
theorem Fr0.b {w0 w : World} {S : Nat → Prop} {g : Col} (hF : Fr0 w0 w (icol S) g) : Below w0.heap.size w0 w := hF.below fun k _ => icol_or S k
/-- Blocks that were there, or are new. -/
def Wd (S : Nat → Prop) (n : Nat) (w' : World) (b : Nat) : Prop := S b ∨ (n ≤ b ∧ b < w'.heap.size)
theorem Fr0.tree {w0 w : World} {S : Nat → Prop} {g : Col} (hF : Fr0 w0 w (icol S) g) {t : T} {u : Value} (h : Go.Ag.R w (Ice w g) t u) : Go.Ag.R w (Wd S w0.heap.size w) t u := h.wide fun k hk => hF.ice hk
theorem Fr0.trees {w0 w : World} {S : Nat → Prop} {g : Col} (hF : Fr0 w0 w (icol S) g) {ts : List T} {us : List Value} (h : Go.Ag.Rs w (Ice w g) ts us) : Go.Ag.Rs w (Wd S w0.heap.size w) ts us := h.wide fun k hk => hF.ice hk
/-- A row, no longer written, as a tree. -/
theorem Fr0.row {w0 w : World} {S : Nat → Prop} {g : Col} (hF : Fr0 w0 w (icol S) g) {e k n c : Nat} {ts : List T} {v : Value} (h : OwnC w0.heap.size e k n c ts v w g) : Go.Ag.R w (Wd S w0.heap.size w) (.l n ts) v := by
  refine h.1.read.wide fun b hb => ?_
  rcases hb with hb | hb
  · exact hF.ice hb
  · exact .inr (h.1.lt b hb)
theorem Wd.chg {S : Nat → Prop} {n b : Nat} {w w' : World} (h : Chg b w w') (hb : b < n) (hS : ¬ S b) : Kept (Wd S n w) w w' := fun k hk => h.block k (by
  rintro rfl
  rcases hk with hk | hk
  · exact hS hk
  · omega)
theorem Wd.wide {S : Nat → Prop} {n m : Nat} {w w' : World} (hm : m ≤ n) (hw : w.heap.size ≤ w'.heap.size) : ∀ k, Wd S n w k → Wd S m w' k := fun k hk => hk.imp id fun h => ⟨Nat.le_trans hm h.1, Nat.lt_of_lt_of_le h.2 hw⟩
theorem Wd.lt {S : Nat → Prop} {n : Nat} {w w' : World} (hS : ∀ b, S b → b < w.heap.size) (hw : w.heap.size ≤ w'.heap.size) : ∀ b, Wd S n w' b → b < w'.heap.size := fun b hb => by
  rcases hb with h | h
  · exact Nat.lt_of_lt_of_le (hS b h) hw
  · exact h.2

section
variable {N : Nm} {P : Program} {ops : Array Oper} {Q : Exit → Act → World → Prop} {K : Act → World → Prop} {rest : List Oper} {l : L} {w : World}
  {d : Nat} {ty : TypeId} {pos : String} {af : Array Edge} {g : Option (Nat × Bool)} {c cx cy cz : Bool}

/-- []E{} -/
theorem W.bs0 {t e base : Nat} {S : Nat → Prop} [T : TyI P t] [E : TyI P e] (he : T.i.elem = some e) (hN : Nat.ble (d + 1) N.n = true) (hb : base ≤ w.heap.size) (hS : ∀ b, S b → b < w.heap.size)
    (h : ∀ v w', v.ownBlock = some w.heap.size → Below w.heap.size w w' → Own w' base S e E.i.size v 0 [] → W N P ops Q K rest ((d, true, v) :: l) w') : W N P ops Q K (⟨some d, .buildSlice t 0 #[], ty, pos, af, none⟩ :: rest) l w :=
  W.opw (c := true) (fun u w' => u.ownBlock = some w.heap.size ∧ Below w.heap.size w w' ∧ Own w' base S e E.i.size u 0 []) rfl rfl hN (fun _ a ha => by
    refine ⟨.slice (some ⟨w.heap.size, 0, none⟩) 0 0, w.alloc (.cells #[] e), ?_, rfl, (Below.refl _ _).alloc (Nat.le_refl _) _, ⟨[], ?_, by simp [Rs], ?_⟩⟩
    · simp only [execOp, Instr.buildSlice, Sem.run_bind, run_underlying (T.helem e he), Result.andThen_ok, E.hsize, Nat.zero_mul]
      simp [Instr.fill, newRow, show Array.range 0 = #[] from by simp [Array.range]]
    · refine ⟨by simp, .inr ⟨w.heap.size, 0, #[], rfl, hb, heap_alloc_new w _, Nat.le_refl _, by simp [maxLen], by simp, by simp⟩⟩
    · intro b hb' hs
      simp [Value.ownBlock] at hb'
      have := hS b hs
      omega) fun v' w' h1 _ => by
    obtain ⟨h2, h3, h4⟩ := h1 rfl
    exact h v' w' h2 h3 h4

/-- append(s, x...): s a row of the call's own, what is appended is read as a slice. -/
theorem W.appR {t e base n m : Nat} {S : Nat → Prop} [TT : TyI P t] [E : TyI P e] {x y : Operand} {v u : Value} {ts tn : List T} (hx : ev l x = some (true, v)) (hy : ev l y = some (true, u)) (he : TT.i.elem = some e)
    (ho : Own w base S e E.i.size v n ts) (hr : R w S (.l m tn) u) (hn : tn.length = m * E.i.size) (h1 : tn.all T.one = true) (hS : ∀ b, S b → b < w.heap.size)
    (hk : 0 < E.i.size) (hm : n + m ≤ maxLen) (hb : (n + m) * E.i.bytes ≤ 140737488355328) (hbase : base ≤ w.heap.size) (hN : Nat.ble (d + 1) N.n = true)
    (h : ∀ v' w', Own w' base S e E.i.size v' (n + m) (ts ++ tn) → w.grownBy w' v.ownBlock → Below base w w' → (∀ b, S b → w'.heap[b]? = w.heap[b]?) → (v'.ownBlock = v.ownBlock ∨ v'.ownBlock = some w.heap.size) → W N P ops Q K rest ((d, true, v') :: l) w') :
    W N P ops Q K (⟨some d, .call { callee := .builtin .append, args := #[x, y], argTypes := #[t, t] }, ty, pos, af, none⟩ :: rest) l w := by
  have hr' := hr
  simp only [R] at hr
  obtain ⟨A, cp, vs, rfl, hmc, hcm, hvs, hA⟩ := hr
  by_cases hne : vs = []
  · subst hne
    have htn : tn = [] := by have := hvs.len; simp at this; exact List.eq_nil_of_length_eq_zero this.symm
    subst htn
    have hm0 : m = 0 := by
      simp only [List.length_nil] at hn
      rcases Nat.eq_zero_or_pos m with h0 | h0
      · exact h0
      · have := Nat.mul_pos h0 hk; omega
    subst hm0
    refine W.opw (c := true) (fun v' w' => v' = v ∧ w' = w) rfl rfl hN (fun _ a ha => ?_) fun v' w' hv _ => ?_
    · refine ⟨v, w, ?_, rfl, rfl⟩
      obtain ⟨A', c', rfl, hnc, hcm', _⟩ := ho.form
      obtain ⟨i0, hi, _⟩ := Option.map_eq_some_iff.1 E.hinfo
      have hsrc : Src P i0.size t (.slice A 0 cp) 0 [] w := by
        cases A with
        | none => exact Src.ofNil w (TT.helem e he) cp
        | some ad => exact Src.ofSlice w (TT.helem e he) ad 0 cp [] (by simp) (fun j u hj => by simp at hj) (fun u hu => by cases hu)
      have := run_append_nothing (P := P) w t t ty e i0 (TT.helem e he) hi A' n c' hnc _ hsrc
      simp only [execOp, resolve, invoke, builtin, List.map_toArray, List.map_cons, List.map_nil, ha.eval hx rfl, ha.eval hy rfl, Sem.run_bind, Sem.run_pure, Result.andThen_ok, this]
    · obtain ⟨rfl, rfl⟩ := hv rfl
      refine h v' w' (by simpa using ho) ⟨rfl, rfl, rfl, Nat.le_refl _, fun k _ _ => rfl⟩ (Below.refl _ _) (fun _ _ => rfl) (.inl rfl)
  · obtain ⟨g0, o, rfl, hg, hc⟩ := hA hne
    exact W.app hx hy he ho hvs (by rw [hvs.len, hn]) (fun i v hi => hc i v hi) rfl (Rs.one hvs h1) hS hk hm hb hbase hN h

/-- A one, two .. elements' slice, read as a tree. -/
theorem W.bslR {t e n : Nat} {S : Nat → Prop} {ts : List T} [T : TyI P t] [E : TyI P e] {xs : List (Nat × Operand)} {vs : List (Nat × Value)} {cs : List Value} (he : T.i.elem = some e) (hv : evp l xs = some (true, vs)) (hcs : lay (fun i => some (i * E.i.size, E.i.size)) (zeros E.i.zero (n * E.i.size)) vs = some cs)
    (hn : Nat.ble (n * E.i.size) 16777216 = true) (hz : n * E.i.size ≠ 0) (hN : Nat.ble (d + 1) N.n = true) (hn2 : n ≤ maxLen) (hr : Rs w S ts cs) (hS : ∀ b, S b → b < w.heap.size)
    (h : ∀ b w', w.heap.size ≤ b → b < w'.heap.size → Below w.heap.size w w' → (∀ S' : Nat → Prop, (∀ k, S k → S' k) → S' b → R w' S' (.l n ts) (.slice (some ⟨b, 0, none⟩) n n)) → W N P ops Q K rest ((d, true, .slice (some ⟨b, 0, none⟩) n n) :: l) w') : W N P ops Q K (⟨some d, .buildSlice t n xs.toArray, ty, pos, af, none⟩ :: rest) l w :=
  W.bsl he hv hcs hn hz hN fun b w' hb hB hx => h b w' hb hx.lt hB fun S' h1 h2 => by
    have := R.ofCells (S := S') (n := n) (c := n) (hr.mono h1 (fun k hk => hB.block k (hS k hk))) hx.cells h2 (Nat.le_refl _) hn2
    exact this
/-- A struct's value out of its fields. -/
theorem PS.bld {t : Nat} [T : TyI P t] {xs : List (Nat × Operand)} {vs : List (Nat × Value)} {cs : List Value} (hv : evp l xs = some (cx, vs)) (hg : gd ops l ⟨some d, .build t xs.toArray, ty, pos, af, g⟩ = some c) (hcx : c = true → cx = true)
    (hf : T.i.flds.isEmpty = false) (hcs : lay (fun i => (T.i.flds[i]?).map (·.2)) T.i.zero vs = some cs) : PS N P ops l ⟨some d, .build t xs.toArray, ty, pos, af, g⟩ d c (.agg cs.toArray) :=
  PS.mk hg rfl (fun w hc a ha => by
    have hvs := ha.evalp hv (hcx hc)
    obtain ⟨fs, hu, h1, h2, h3⟩ := T.hflds (by intro e; rw [e] at hf; simp at hf)
    obtain ⟨i0, hi, hzz⟩ := Option.map_eq_some_iff.1 T.hinfo
    simp only [Prod.mk.injEq] at hzz
    have hb : P.built t vs = some cs.toArray := by
      unfold Program.built
      simp only [hi, hu, hzz.1, h2, T.zero_cells]
      have := fill_lay _ vs T.i.zero cs hcs
      rw [← this]
      congr 1
      funext i
      simp
    have := run_build (P := P) w t vs.toArray cs.toArray (by simpa using hb)
    simp only [execOp, List.map_toArray, hvs, Sem.run_bind, this, Result.andThen_ok, Sem.run_pure])

/-! ### Results that lie in memory -/
def rrun (tmps : Array Value) : ResultVar → Sem Value
  | .tmp t => pure (tmps.getD t undef)
  | .cell t ty => do loadVar ty (← asAddr (tmps.getD t undef))
def RV (N : Nm) (P : Program) (l : L) (w : World) (r : ResultVar) (v : Value) : Prop := ∀ a, Ag N l a → (rrun a.tmps r).run P w = .ok v w
theorem RV.tmp {t : Nat} {v : Value} (h : lk l t = some (true, v)) : RV N P l w (.tmp t) v := fun a ha => by
  have := ha.2.2 t true v h
  simp only [rrun, Sem.run_pure]
  exact congrArg (fun x => Result.ok x w) this
theorem RV.cell {t : Nat} [T : TyI P t] {s b o : Nat} {cs : List Value} (h : lk l s = some (true, .pointer (some ⟨b, o, none⟩))) (hs : cs.length = T.i.size) (hc : Cells w b o cs) : RV N P l w (.cell s t) (bif T.i.agg then .agg cs.toArray else cs.headD undef) := fun a ha => by
  have := ha.2.2 s true _ h
  have h2 : a.tmps.getD s undef = .pointer (some ⟨b, o, none⟩) := this
  simp only [rrun, h2, Sem.run_bind]
  simp [asAddr, run_loadv hs hc]
theorem KC.finv1 {n : Nat} {fn : Func} {R : Ending → World → Prop} {r : ResultVar} {v : Value} (hr : fn.results = #[r]) (hv : RV ⟨n, []⟩ P l w r v) (h : R (.returned v) w) : KC ⟨n, []⟩ (bodyPost P fn R .ret) l w :=
  by
  unfold KC
  exact fun a ha => ⟨ha.1, v, by
    have h1 := hv a ha
    have : (results fn a.tmps) = (do let vs ← #[r].mapM (rrun a.tmps); pure (if h : vs.size = 1 then vs[0] else .tuple vs)) := by
      unfold results rrun
      rw [hr]
      rfl
    rw [this]
    simp [h1], h⟩
theorem KC.finv2 {n : Nat} {fn : Func} {R : Ending → World → Prop} {r s : ResultVar} {v x : Value} (hr : fn.results = #[r, s]) (hv : RV ⟨n, []⟩ P l w r v) (hx : RV ⟨n, []⟩ P l w s x) (h : R (.returned (.tuple #[v, x])) w) : KC ⟨n, []⟩ (bodyPost P fn R .ret) l w :=
  by
  unfold KC
  exact fun a ha => ⟨ha.1, .tuple #[v, x], by
    have h1 := hv a ha
    have h2 := hx a ha
    have : (results fn a.tmps) = (do let vs ← #[r, s].mapM (rrun a.tmps); pure (if h : vs.size = 1 then vs[0] else .tuple vs)) := by
      unfold results rrun
      rw [hr]
      rfl
    rw [this]
    simp [h1, h2], h⟩
theorem KC.finv3 {n : Nat} {fn : Func} {R : Ending → World → Prop} {r s t : ResultVar} {v x y : Value} (hr : fn.results = #[r, s, t]) (hv : RV ⟨n, []⟩ P l w r v) (hx : RV ⟨n, []⟩ P l w s x) (hy : RV ⟨n, []⟩ P l w t y) (h : R (.returned (.tuple #[v, x, y])) w) : KC ⟨n, []⟩ (bodyPost P fn R .ret) l w :=
  by
  unfold KC
  exact fun a ha => ⟨ha.1, .tuple #[v, x, y], by
    have h1 := hv a ha
    have h2 := hx a ha
    have h3 := hy a ha
    have : (results fn a.tmps) = (do let vs ← #[r, s, t].mapM (rrun a.tmps); pure (if h : vs.size = 1 then vs[0] else .tuple vs)) := by
      unfold results rrun
      rw [hr]
      rfl
    rw [this]
    simp [h1, h2, h3], h⟩
end
end Go.Ag
