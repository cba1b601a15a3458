/- Words of this claim: slices in a walk: elements, new rows, append onto a row of one's own. -/
import Derived.Test.YtpafhjaidpmeeaaGreatDoorMem
set_option linter.unusedVariables false
namespace Go.Ag
open Go.RowKit

/-- A row of the call's own, from block base on: its elements read as the trees, through blocks of S, which is none of the row's own. -/
def Own (w : World) (base : Nat) (S : Nat → Prop) (e k : Nat) (v : Value) (n : Nat) (ts : List T) : Prop :=
  ∃ vs, w.ownsRow base e k v n vs ∧ Rs w S ts vs ∧ ∀ b, v.ownBlock = some b → ¬ S b

theorem grown_below {w w' : World} {row : Option Nat} (h : w.grownBy w' row) {B : Nat} (hB : B ≤ w.heap.size) (hr : ∀ k, row = some k → B ≤ k) : Below B w w' :=
  ⟨h.os, h.tape, h.output, h.size, fun k hk => h.block k (by omega) (fun e => by have := hr k e.symm; omega)⟩

section
variable {w w' : World} {base e k n : Nat} {S S' : Nat → Prop} {v : Value} {ts : List T}
theorem Own.nil (w : World) (base : Nat) (S : Nat → Prop) (e k : Nat) : Own w base S e k (.slice none 0 0) 0 [] :=
  ⟨[], World.ownsRow_nil _ _ _ _, by simp [Rs], fun b h => by simp [Value.ownBlock] at h⟩
theorem Own.lt (h : Own w base S e k v n ts) : ∀ b, v.ownBlock = some b → base ≤ b ∧ b < w.heap.size := by
  obtain ⟨vs, h1, _⟩ := h
  exact h1.lt
theorem Own.apart (h : Own w base S e k v n ts) : ∀ b, v.ownBlock = some b → ¬ S b := h.choose_spec.2.2
/-- Other blocks have turned. -/
theorem Own.keep (h : Own w base S e k v n ts) (hS : ∀ b, S b → w'.heap[b]? = w.heap[b]?) (hv : ∀ b, v.ownBlock = some b → w'.heap[b]? = w.heap[b]?) : Own w' base S e k v n ts := by
  obtain ⟨vs, h1, h2, h3⟩ := h
  refine ⟨vs, ?_, h2.kept hS, h3⟩
  obtain ⟨hl, h1⟩ := h1
  refine ⟨hl, ?_⟩
  rcases h1 with h1 | ⟨g, cap, cur, rfl, hg, hh, r⟩
  · exact .inl h1
  · exact .inr ⟨g, cap, cur, rfl, hg, (hv g (by simp [Value.ownBlock])).trans hh, r⟩
theorem Own.b (h : Own w base S e k v n ts) (hS : ∀ b, S b → b < w.heap.size) (hB : Below w.heap.size w w') : Own w' base S e k v n ts :=
  h.keep (fun b hb => hB.block b (hS b hb)) (fun b hb => hB.block b (h.lt b hb).2)
theorem Own.wide (h : Own w base S e k v n ts) (hS : ∀ b, S b → S' b) (hv : ∀ b, v.ownBlock = some b → ¬ S' b) : Own w base S' e k v n ts := by
  obtain ⟨vs, h1, h2, h3⟩ := h
  exact ⟨vs, h1, h2.wide hS, hv⟩
theorem Own.form (h : Own w base S e k v n ts) : ∃ A c, v = .slice A n c ∧ n ≤ c ∧ c ≤ maxLen ∧ ts.length = n * k := by
  obtain ⟨vs, h1, h2, h3⟩ := h
  have hl := h2.len
  rw [← hl, h1.1]
  rcases h1.2 with ⟨rfl, rfl⟩ | ⟨g, cap, cur, rfl, hg, hh, r1, r2, _⟩
  · exact ⟨none, 0, rfl, Nat.le_refl _, by simp [maxLen], rfl⟩
  · exact ⟨_, cap, rfl, r1, r2, rfl⟩
theorem Own.cells (h : Own w base S e k v n ts) : ∃ vs, Rs w S ts vs ∧ (vs ≠ [] → ∃ g c, v = .slice (some ⟨g, 0, none⟩) n c ∧ v.ownBlock = some g ∧ Cells w g 0 vs) := by
  obtain ⟨vs, h1, h2, h3⟩ := h
  refine ⟨vs, h2, fun hne => ?_⟩
  rcases h1.2 with ⟨rfl, rfl⟩ | ⟨g, cap, cur, rfl, hg, hh, r1, r2, r3, r4⟩
  · exfalso
    have := h1.1
    simp at this
    exact hne this
  · refine ⟨g, cap, rfl, rfl, fun i u hi => ?_⟩
    rw [← r4, List.getElem?_take] at hi
    split at hi
    · simp only [World.cell?, hh]
      simpa using hi
    · cases hi
/-- It is not written any more: it reads as a slice. -/
theorem Own.read (h : Own w base S e k v n ts) : R w (fun b => S b ∨ v.ownBlock = some b) (.l n ts) v := by
  obtain ⟨A, c, rfl, hn, hc, _⟩ := h.form
  obtain ⟨vs, h2, h3⟩ := h.cells
  simp only [R]
  refine ⟨A, c, vs, rfl, hn, hc, h2.wide (fun _ h => .inl h), fun hne => ?_⟩
  obtain ⟨g, c', hv, hg, hcl⟩ := h3 hne
  injection hv with hA _ _
  exact ⟨g, 0, hA, .inr hg, hcl⟩
end

section
variable {N : Nm} {P : Program} {ops : Array Oper} {Q : Exit → Act → World → Prop} {K : Act → World → Prop} {rest : List Oper} {l : L} {w : World}
  {d : Nat} {ty : TypeId} {pos : String} {af : Array Edge} {g : Option (Nat × Bool)} {c cx cy cz : Bool}

/-- xs[i], its address -/
theorem PS.iad {t : Nat} {e : Nat} [T : TyI P t] [E : TyI P e] {x y : Operand} {k : IntKind} {b o n m : Nat} {i : Int} (hx : ev l x = some (cx, .slice (some ⟨b, o, none⟩) n m)) (hy : ev l y = some (cy, .int k i)) (hg : gd ops l ⟨some d, .indexAddr t x y, ty, pos, af, g⟩ = some c)
    (hcx : c = true → cx = true) (hcy : c = true → cy = true) (he : T.i.elem = some e) (hi : c = true → 0 ≤ i ∧ i < n) :
    PS N P ops l ⟨some d, .indexAddr t x y, ty, pos, af, g⟩ d c (.pointer (some ⟨b, o + i.toNat * E.i.size, none⟩)) :=
  PS.mk hg rfl (fun w hc a ha => by
    have hu := T.helem e he
    obtain ⟨h0, h1⟩ := hi hc
    have hadd : (⟨b, o, none⟩ : Addr).add (i.toNat * E.i.size) = ⟨b, o + i.toNat * E.i.size, none⟩ := by unfold Addr.add; split <;> simp_all
    simp [execOp, ha.eval hx (hcx hc), ha.eval hy (hcy hc), Instr.indexAt, asIntOf, run_underlying hu, h0, h1, E.hsize, hadd])

theorem fold_splice : ∀ (vs : List Value) (cs : List Value) (o j : Nat), o + j + vs.length ≤ cs.length →
    ((vs.zipIdx j).foldl (fun (a : Array Value) (x : Value × Nat) => a.setIfInBounds (o + x.2) x.1) cs.toArray) = (splice cs (o + j) vs).toArray
  | [], cs, o, j, h => by simp [splice_nil]
  | v :: vs, cs, o, j, h => by
    simp only [List.length_cons] at h
    simp only [List.zipIdx_cons, List.foldl_cons, List.setIfInBounds_toArray]
    rw [fold_splice vs (cs.set (o + j) v) o (j + 1) (by simp; omega), ← Nat.add_assoc, splice_cons cs (o + j) v vs (by omega)]

/-- The parts laid into cells. -/
def lay (pl : Nat → Option (Nat × Nat)) : List Value → List (Nat × Value) → Option (List Value)
  | cs, [] => some cs
  | cs, (i, v) :: r => match pl i with
    | none => none
    | some (o, n) => match Nat.beq (vcs v).length n && Nat.ble (o + (vcs v).length) cs.length with
      | true => lay pl (splice cs o (vcs v)) r
      | false => none
theorem fill_lay (pl : Nat → Option (Nat × Nat)) : ∀ (parts : List (Nat × Value)) (cs out : List Value), lay pl cs parts = some out → Instr.fill pl cs.toArray parts = some out.toArray
  | [], cs, out, h => by simp only [lay, Option.some.injEq] at h; subst h; rfl
  | (i, v) :: r, cs, out, h => by
    simp only [lay] at h
    split at h
    · cases h
    · rename_i o n hp
      split at h
      · rename_i hb
        rw [Bool.and_eq_true] at hb
        have h1 := Nat.eq_of_beq_eq_true hb.1
        have h2 := Nat.le_of_ble_eq_true hb.2
        have hsz : v.cells.size = (vcs v).length := by rw [← vcs_cells]; simp
        have hf := fold_splice (vcs v) cs o 0 (by simpa using h2)
        unfold Instr.fill
        simp only [hp]
        rw [if_neg (by simp [hsz, h1]; omega)]
        have he : v.cells.zipIdx.foldl (fun cs (x : Value × Nat) => cs.setIfInBounds (o + x.2) x.1) cs.toArray = (splice cs o (vcs v)).toArray := by
          rw [← Array.foldl_toList, Array.toList_zipIdx, vcs_cells]
          simpa using hf
        have := fill_lay pl r (splice cs o (vcs v)) out h
        rw [← he] at this
        exact this
      · cases h

def zeros (z : List Value) (n : Nat) : List Value := (List.range n).map fun j => (z[j % z.length]?).getD default
def evp (l : L) : List (Nat × Operand) → Option (Bool × List (Nat × Value))
  | [] => some (true, [])
  | (i, x) :: xs => match ev l x, evp l xs with
    | some (c, v), some (c', vs) => some (c && c', (i, v) :: vs)
    | _, _ => none
theorem Ag.evalp {a : Act} (h : Ag N l a) : ∀ {xs : List (Nat × Operand)} {c : Bool} {vs : List (Nat × Value)}, evp l xs = some (c, vs) → c = true → xs.map (fun (i, x) => (i, a.eval x)) = vs
  | [], c, vs, he, hc => by simp only [evp, Option.some.injEq, Prod.mk.injEq] at he; rw [← he.2]; rfl
  | (i, x) :: xs, c, vs, he, hc => by
    simp only [evp] at he
    split at he
    · rename_i c1 v1 c2 vs2 h1 h2
      simp only [Option.some.injEq, Prod.mk.injEq] at he
      obtain ⟨rfl, rfl⟩ := he
      simp only [Bool.and_eq_true] at hc
      simp [h.eval h1 hc.1, h.evalp h2 hc.2]
    · simp at he

/-- []E{x, ..} -/
theorem W.bsl {t e n : Nat} [T : TyI P t] [E : TyI P e] {xs : List (Nat × Operand)} {vs : List (Nat × Value)} {cs : List Value} (he : T.i.elem = some e) (hv : evp l xs = some (true, vs)) (hcs : lay (fun i => some (i * E.i.size, E.i.size)) (zeros E.i.zero (n * E.i.size)) vs = some cs)
    (hn : Nat.ble (n * E.i.size) 16777216 = true) (hz : n * E.i.size ≠ 0) (hN : Nat.ble (d + 1) N.n = true)
    (h : ∀ b w', w.heap.size ≤ b → Below w.heap.size w w' → Box w' b e cs → W N P ops Q K rest ((d, true, .slice (some ⟨b, 0, none⟩) n n) :: l) w') : W N P ops Q K (⟨some d, .buildSlice t n xs.toArray, ty, pos, af, none⟩ :: rest) l w :=
  W.opw (c := true) (fun u w' => ∃ b, u = .slice (some ⟨b, 0, none⟩) n n ∧ w.heap.size ≤ b ∧ Below w.heap.size w w' ∧ Box w' b e cs) rfl rfl hN (fun _ a ha => by
    refine ⟨.slice (some ⟨w.heap.size, 0, none⟩) n n, w.alloc (.cells cs.toArray e), ?_, w.heap.size, rfl, Nat.le_refl _, (Below.refl _ _).alloc (Nat.le_refl _) _, heap_alloc_new w _⟩
    have hvs := ha.evalp hv rfl
    have hle : n * E.i.size ≤ 2 ^ 24 := by have := Nat.le_of_ble_eq_true hn; omega
    have hzc : (bif E.i.agg then Value.agg E.i.zero.toArray else E.i.zero.headD undef).cells = E.i.zero.toArray := E.zero_cells
    have hzl : E.i.zero.length = E.i.size := E.hzlen
    have hza : (Array.range (n * E.i.size)).map (fun j => E.i.zero.toArray[j % E.i.zero.toArray.size]!) = (zeros E.i.zero (n * E.i.size)).toArray := by
      apply Array.ext'
      simp only [zeros, Array.toList_map, Array.toList_range, List.toArray]
      apply List.map_congr_left
      intro j hj
      simp [getElem!_def]
      cases E.i.zero[j % E.i.zero.length]? <;> rfl
    simp only [execOp, Instr.buildSlice, Sem.run_bind, run_underlying (T.helem e he), Result.andThen_ok, E.hsize, Sem.run_ite, if_neg (show ¬ n * E.i.size > 2 ^ 24 from by omega), if_neg hz, E.hzero, Sem.run_pure, hzc, hza, List.map_toArray, hvs, fill_lay _ _ _ _ hcs, newRow, run_newObj]
    rfl) fun v' w' h1 _ => by
    obtain ⟨b, rfl, h2, h3, h4⟩ := h1 rfl
    exact h b w' h2 h3 h4

/-- append(s, x..): s a row of the call's own, what is appended lies in other cells (or nowhere). -/
theorem W.app {t e base n m cp : Nat} {S : Nat → Prop} [TT : TyI P t] [E : TyI P e] {x y : Operand} {v : Value} {ad : Addr} {ts tn : List T} {vn : List Value} (hx : ev l x = some (true, v)) (hy : ev l y = some (true, .slice (some ad) m cp)) (he : TT.i.elem = some e)
    (ho : Own w base S e E.i.size v n ts) (hr : Rs w S tn vn) (hn : vn.length = m * E.i.size) (hc : Cells w ad.block ad.off vn) (hsp : ad.spot = none) (h1 : ∀ u ∈ vn, u.oneCell' = true) (hS : ∀ b, S b → b < w.heap.size)
    (hk : 0 < E.i.size) (hm : n + m ≤ maxLen) (hb : (n + m) * E.i.bytes ≤ 140737488355328) (hbase : base ≤ w.heap.size) (hN : Nat.ble (d + 1) N.n = true)
    (h : ∀ v' w', Own w' base S e E.i.size v' (n + m) (ts ++ tn) → w.grownBy w' v.ownBlock → Below base w w' → (∀ b, S b → w'.heap[b]? = w.heap[b]?) → (v'.ownBlock = v.ownBlock ∨ v'.ownBlock = some w.heap.size) → W N P ops Q K rest ((d, true, v') :: l) w') :
    W N P ops Q K (⟨some d, .call { callee := .builtin .append, args := #[x, y], argTypes := #[t, t] }, ty, pos, af, none⟩ :: rest) l w :=
  W.opw (c := true) (fun v' w' => Own w' base S e E.i.size v' (n + m) (ts ++ tn) ∧ w.grownBy w' v.ownBlock ∧ Below base w w' ∧ (∀ b, S b → w'.heap[b]? = w.heap[b]?) ∧ (v'.ownBlock = v.ownBlock ∨ v'.ownBlock = some w.heap.size)) rfl rfl hN (fun _ a ha => by
    obtain ⟨vs, ho1, ho2, ho3⟩ := ho
    have hinfo := E.hinfo
    obtain ⟨i0, hi, hzz⟩ := Option.map_eq_some_iff.1 hinfo
    simp only [Prod.mk.injEq] at hzz
    obtain ⟨hz0, hz1, hz2⟩ := hzz
    have hzs : (bif E.i.agg then Value.agg E.i.zero.toArray else E.i.zero.headD undef).cells.size = E.i.size := by rw [E.zero_cells]; simpa using E.hzlen
    have hnews : ∀ j u, vn[j]? = some u → w.cell? (ad.add j) = some u := by
      intro j u hj
      have := hc j u hj
      obtain ⟨ab, ao, asp⟩ := ad
      simp only at hsp this
      subst hsp
      have hadd : (⟨ab, ao, none⟩ : Addr).add j = ⟨ab, ao + j, none⟩ := by unfold Addr.add; split <;> simp_all
      rw [hadd]; exact this
    obtain ⟨v', w', hr', h2, h3, h4, h5⟩ := run_append_own_at (P := P) w base t ty e i0 _ E.i.size E.i.bytes (TT.helem e he) hi hz0 hz1 hz2 hzs hk v n vs ho1 ad m cp vn hn hnews h1 hm hb hbase
    have hlt := ho1.lt
    refine ⟨v', w', ?_, ?_, h3, grown_below h3 hbase (fun k hk => (hlt k hk).1), ?_, h5⟩
    · simp only [execOp, resolve, invoke, builtin, List.map_toArray, List.map_cons, List.map_nil, ha.eval hx rfl, ha.eval hy rfl, Sem.run_bind, Sem.run_pure, Result.andThen_ok, hr']
    · have hkS : ∀ b, S b → w'.heap[b]? = w.heap[b]? := fun b hb => h3.block b (hS b hb) (fun e => ho3 b e.symm hb)
      refine ⟨vs ++ vn, h2, (ho2.append hr).kept hkS, fun b hb => ?_⟩
      rcases h5 with h5 | h5
      · exact ho3 b (by rw [← h5]; exact hb)
      · rw [h5] at hb
        injection hb with hb
        intro hs
        have := hS b hs
        omega
    · exact fun b hb => h3.block b (hS b hb) (fun e => ho3 b e.symm hb)) fun v' w' h1 _ => by
    obtain ⟨h2, h3, h4, h5, h6⟩ := h1 rfl
    exact h v' w' h2 h3 h4 h5 h6
end
end Go.Ag
