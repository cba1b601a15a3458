/- Words of this claim: maps in a walk. What a map holds: keys, values, the entries' stamps. -/
import Derived.Test.YtpafhjaidpmeeaaGreatDoorRow2
import Derived.Maps.RangeRun
set_option linter.unusedVariables false
set_option linter.unusedSimpArgs false
namespace Go.Ag
open Go.RowKit

/-- What an entry is: key, value, stamp. -/
abbrev Es (K : Type) := List (K × Value × Nat)
def fnd {K : Type} [DecidableEq K] (k : K) : Es K → Nat → Option (Nat × Value)
  | [], _ => none
  | x :: l, i => if k = x.1 then some (i, x.2.1) else fnd k l (i + 1)
/-- A type of keys. -/
class KeyI (P : Program) (t : Nat) (K : Type) [DecidableEq K] where
  key : K → Value
  find : ∀ (k : K) (m : Es K) w, (Instr.findKey t (key k) (m.map fun x => (⟨key x.1, x.2.1, x.2.2⟩ : MapEntry))).run P w = .ok (fnd k m 0) w
  check : ∀ k e w, (Instr.checkKey e 10000 t (key k)).run P w = .ok () w
  bits : ∀ k, Instr.sameBits 10000 (key k) (key k) = true

section
variable {K : Type} [DecidableEq K]
def aget (k : K) : Es K → Option Value
  | [] => none
  | x :: l => if k = x.1 then some x.2.1 else aget k l
def aset (k : K) (v : Value) (c : Nat) : Es K → Es K
  | [] => [(k, v, c)]
  | x :: l => if k = x.1 then (x.1, v, x.2.2) :: l else x :: aset k v c l
def adel (k : K) : Es K → Es K
  | [] => []
  | x :: l => if k = x.1 then l else x :: adel k l
theorem fnd_get (k : K) : ∀ (m : Es K) (i : Nat), (fnd k m i).map (·.2) = aget k m
  | [], _ => rfl
  | x :: m, i => by
    simp only [fnd, aget]
    split
    · rfl
    · exact fnd_get k m (i + 1)
theorem fnd_spec (k : K) : ∀ (m : Es K) (i j : Nat) (v : Value), fnd k m i = some (j, v) → ∃ h : j - i < m.length, i ≤ j ∧ (m[j - i]).1 = k ∧ (m[j - i]).2.1 = v
  | [], _, _, _, h => by simp [fnd] at h
  | x :: m, i, j, v, h => by
    simp only [fnd] at h
    split at h
    · rename_i hk
      simp only [Option.some.injEq, Prod.mk.injEq] at h
      obtain ⟨rfl, rfl⟩ := h
      exact ⟨by simp, Nat.le_refl _, by simpa using hk.symm, by simp⟩
    · obtain ⟨h1, h2, h3, h4⟩ := fnd_spec k m (i + 1) j v h
      have e : j - i = j - (i + 1) + 1 := by omega
      refine ⟨by simp only [List.length_cons]; omega, by omega, ?_, ?_⟩
      · simp only [e, List.getElem_cons_succ]; exact h3
      · simp only [e, List.getElem_cons_succ]; exact h4
theorem aset_found (k : K) (v : Value) (c : Nat) : ∀ (m : Es K) (i j : Nat) (u : Value), fnd k m i = some (j, u) → aset k v c m = m.modify (j - i) fun x => (x.1, v, x.2.2)
  | [], _, _, _, h => by simp [fnd] at h
  | x :: m, i, j, u, h => by
    simp only [fnd] at h
    simp only [aset]
    split at h
    · rename_i hk
      simp only [Option.some.injEq, Prod.mk.injEq] at h
      obtain ⟨rfl, rfl⟩ := h
      rw [if_pos hk]; simp
    · rename_i hk
      obtain ⟨h1, h2, _⟩ := fnd_spec k m (i + 1) j u h
      rw [if_neg hk, aset_found k v c m (i + 1) j u h, show j - i = j - (i + 1) + 1 by omega]
      simp [List.modify_succ_cons]
theorem aset_none (k : K) (v : Value) (c : Nat) : ∀ (m : Es K) (i : Nat), fnd k m i = none → aset k v c m = m ++ [(k, v, c)]
  | [], _, _ => rfl
  | x :: m, i, h => by
    simp only [fnd] at h
    simp only [aset]
    split at h
    · cases h
    · rename_i hk
      rw [if_neg hk, aset_none k v c m (i + 1) h]; rfl
theorem adel_found (k : K) : ∀ (m : Es K) (i j : Nat) (u : Value), fnd k m i = some (j, u) → adel k m = m.eraseIdx (j - i)
  | [], _, _, _, h => by simp [fnd] at h
  | x :: m, i, j, u, h => by
    simp only [fnd] at h
    simp only [adel]
    split at h
    · rename_i hk
      simp only [Option.some.injEq, Prod.mk.injEq] at h
      obtain ⟨rfl, rfl⟩ := h
      rw [if_pos hk]; simp
    · rename_i hk
      obtain ⟨h1, h2, _⟩ := fnd_spec k m (i + 1) j u h
      rw [if_neg hk, adel_found k m (i + 1) j u h, show j - i = j - (i + 1) + 1 by omega]
      simp
theorem adel_none (k : K) : ∀ (m : Es K) (i : Nat), fnd k m i = none → adel k m = m
  | [], _, _ => rfl
  | x :: m, i, h => by
    simp only [fnd] at h
    simp only [adel]
    split at h
    · cases h
    · rename_i hk
      rw [if_neg hk, adel_none k m (i + 1) h]
end

/-- Block b is a map that holds these entries. -/
structure Mp (P : Program) (t : Nat) {K : Type} [DecidableEq K] [I : KeyI P t K] (w : World) (b : Nat) (m : Es K) (clock : Nat) : Prop where
  heap : w.heap[b]? = some (.map (m.map fun x => (⟨I.key x.1, x.2.1, x.2.2⟩ : MapEntry)).toArray clock)
  keys : (m.map (·.1)).Nodup
  born : (m.map (·.2.2)).Nodup
  old : ∀ x ∈ m, x.2.2 < clock

section
theorem run_getO {P : Program} {w : World} {r : Nat} {es : Array MapEntry} {c : Nat} (h : w.heap[r]? = some (.map es c)) : (getObj r).run P w = .ok (.map es c) w := by simp [getObj, Sem.run, h]
theorem run_setO {P : Program} {w : World} {r : Nat} {es : Array MapEntry} {c : Nat} (h : w.heap[r]? = some (.map es c)) (o' : Obj) : (setObj r o').run P w = .ok () { w with heap := w.heap.setIfInBounds r o' } := by simp [setObj, Sem.run, h]
end
section
variable {N : Nm} {P : Program} {ops : Array Oper} {Q : Exit → Act → World → Prop} {K : Act → World → Prop} {rest : List Oper} {l : L} {w : World}
  {d : Nat} {ty : TypeId} {pos : String} {af : Array Edge} {g : Option (Nat × Bool)} {c cx cy cz : Bool}
  {kt : Nat} {κ : Type} [DecidableEq κ] [I : KeyI P kt κ] {m : Es κ} {bk clock : Nat}

theorem Mp.lt (h : Mp P kt w bk m clock) : bk < w.heap.size := (Array.getElem?_eq_some_iff.1 h.heap).1
theorem Mp.keep {w' : World} (h : Mp P kt w bk m clock) (hb : w'.heap[bk]? = w.heap[bk]?) : Mp P kt w' bk m clock := ⟨hb.trans h.heap, h.keys, h.born, h.old⟩
theorem Mp.b {w' : World} (h : Mp P kt w bk m clock) (hB : Below w.heap.size w w') : Mp P kt w' bk m clock := h.keep (hB.block bk h.lt)
theorem getElem?_setIf {α : Type} (a : Array α) (b : Nat) (x : α) (h : b < a.size) : (a.setIfInBounds b x)[b]? = some x := by simp [h]
theorem chg_set (w : World) (b : Nat) (o : Obj) : Chg b w { w with heap := w.heap.setIfInBounds b o } := ⟨rfl, rfl, rfl, by simp, fun k hk => by simp [Array.getElem?_setIfInBounds_ne (Ne.symm hk)]⟩

/-- make(map[K]V), map[K]V{} -/
theorem W.mkm {t : Nat} (kt : Nat) (κ : Type) [DecidableEq κ] [I : KeyI P kt κ] (hN : Nat.ble (d + 1) N.n = true)
    (h : ∀ b w', b = w.heap.size → Below w.heap.size w w' → Mp P kt w' b ([] : Es κ) 0 → W N P ops Q K rest ((d, true, .map (some b)) :: l) w') : W N P ops Q K (⟨some d, .makeMap t none, ty, pos, af, none⟩ :: rest) l w :=
  W.opw (c := true) (fun u w' => ∃ b, u = .map (some b) ∧ b = w.heap.size ∧ Below w.heap.size w w' ∧ Mp P kt w' b ([] : Es κ) 0) rfl rfl hN (fun _ a ha => by
    refine ⟨.map (some w.heap.size), w.alloc (.map #[] 0), ?_, w.heap.size, rfl, rfl, (Below.refl _ _).alloc (Nat.le_refl _) _, ⟨heap_alloc_new w _, by simp, by simp, by simp⟩⟩
    simp [execOp, Instr.makeMap]) fun v' w' h1 _ => by
    obtain ⟨b, rfl, h2, h3, h4⟩ := h1 rfl
    exact h b w' h2 h3 h4

def lkv (z : Value) (ok : Bool) (r : Option Value) : Value := bif ok then .tuple #[r.getD z, .bool r.isSome] else r.getD z
theorem run_lookup {t e : Nat} [E : TyI P e] (ht : P.underlying t = some (.map kt e)) (hm : Mp P kt w bk m clock) (k : κ) (ok : Bool) :
    (Instr.lookup t (.map (some bk)) (I.key k) ok).run P w = .ok (lkv (bif E.i.agg then .agg E.i.zero.toArray else E.i.zero.headD undef) ok (aget k m)) w := by
  have hf := I.find k m w
  have hg := fnd_get k m 0
  have hc := I.check k ((m.map fun x => (⟨I.key x.1, x.2.1, x.2.2⟩ : MapEntry)).toArray.isEmpty) w
  unfold Instr.lookup
  simp only [Sem.run_bind, run_underlying ht, Result.andThen_ok, run_getO hm.heap, Sem.run_pure, hc, hf]
  cases hr : fnd k m 0 with
  | none =>
    rw [hr] at hg
    rw [← hg]
    simp only [Sem.run_bind, E.hzero, Result.andThen_ok, Sem.run_pure, Option.map_none]
    cases ok <;> rfl
  | some r =>
    obtain ⟨j, v⟩ := r
    rw [hr] at hg
    rw [← hg]
    simp only [Sem.run_pure, Result.andThen_ok, Option.map_some]
    cases ok <;> rfl
theorem run_lookup0 {t e : Nat} [E : TyI P e] (ht : P.underlying t = some (.map kt e)) (k : κ) (ok : Bool) :
    (Instr.lookup t (.map none) (I.key k) ok).run P w = .ok (lkv (bif E.i.agg then .agg E.i.zero.toArray else E.i.zero.headD undef) ok none) w := by
  have hf := I.find k [] w
  have hc := I.check k true w
  unfold Instr.lookup
  simp only [Sem.run_bind, run_underlying ht, Result.andThen_ok, Sem.run_pure]
  have h2 : (Instr.checkKey (#[] : Array MapEntry).isEmpty 10000 kt (I.key k)).run P w = .ok () w := hc
  have h3 : (Instr.findKey kt (I.key k) (#[] : Array MapEntry).toList).run P w = .ok none w := hf
  simp only [h2, h3, Result.andThen_ok, Sem.run_bind, E.hzero, Sem.run_pure]
  cases ok <;> rfl
/-- m[k] -/
theorem W.lkp {t e : Nat} [E : TyI P e] {x y : Operand} {k : κ} {ok : Bool} (ht : P.underlying t = some (.map kt e)) (hx : ev l x = some (cx, .map (some bk))) (hy : ev l y = some (cy, I.key k)) (hg : gd ops l ⟨some d, .lookup t x y ok, ty, pos, af, g⟩ = some c)
    (hcx : c = true → cx = true) (hcy : c = true → cy = true) (hm : c = true → Mp P kt w bk m clock) (hN : Nat.ble (d + 1) N.n = true)
    (h : W N P ops Q K rest ((d, c, lkv (bif E.i.agg then .agg E.i.zero.toArray else E.i.zero.headD undef) ok (aget k m)) :: l) w) : W N P ops Q K (⟨some d, .lookup t x y ok, ty, pos, af, g⟩ :: rest) l w :=
  W.op hg rfl hN (fun hc a ha => by simp [execOp, ha.eval hx (hcx hc), ha.eval hy (hcy hc), run_lookup ht (hm hc)]) h
theorem PS.lkp0 {t e : Nat} [E : TyI P e] {x y : Operand} {k : κ} {ok : Bool} (ht : P.underlying t = some (.map kt e)) (hx : ev l x = some (cx, .map none)) (hy : ev l y = some (cy, I.key k)) (hg : gd ops l ⟨some d, .lookup t x y ok, ty, pos, af, g⟩ = some c)
    (hcx : c = true → cx = true) (hcy : c = true → cy = true) : PS N P ops l ⟨some d, .lookup t x y ok, ty, pos, af, g⟩ d c (lkv (bif E.i.agg then .agg E.i.zero.toArray else E.i.zero.headD undef) ok none) :=
  PS.mk hg rfl (fun w hc a ha => by simp [execOp, ha.eval hx (hcx hc), ha.eval hy (hcy hc), run_lookup0 ht])

theorem map_mod {α β : Type} (f : α → β) (l : List α) (n : Nat) (p : α → α) (h : ∀ a, f (p a) = f a) : (l.modify n p).map f = l.map f := by
  apply List.ext_getElem?
  intro i
  simp only [List.getElem?_map, List.getElem?_modify]
  split <;> cases l[i]? <;> simp [h]
theorem fnd_mem {κ : Type} [DecidableEq κ] (k : κ) : ∀ (m : Es κ) (i : Nat), k ∈ m.map (·.1) → fnd k m i ≠ none
  | [], i, h => by simp at h
  | x :: m, i, h => by
    simp only [fnd]
    split
    · simp
    · rename_i hne
      refine fnd_mem k m (i + 1) ?_
      simp only [List.map_cons, List.mem_cons] at h
      exact h.resolve_left hne
theorem Mp.grow {w' : World} (hm : Mp P kt w bk m clock) {k : κ} (v : Value) (hr : fnd k m 0 = none) (hh : w'.heap[bk]? = some (.map ((m ++ [(k, v, clock)]).map fun x => (⟨I.key x.1, x.2.1, x.2.2⟩ : MapEntry)).toArray (clock + 1))) : Mp P kt w' bk (m ++ [(k, v, clock)]) (clock + 1) := by
  refine ⟨hh, ?_, ?_, ?_⟩
  · rw [List.map_append, List.nodup_append]
    refine ⟨hm.keys, by simp, ?_⟩
    intro a ha b hb heq
    simp at hb
    subst hb; subst heq
    exact fnd_mem a m 0 ha hr
  · rw [List.map_append, List.nodup_append]
    refine ⟨hm.born, by simp, ?_⟩
    intro a ha b hb heq
    simp at hb
    subst hb; subst heq
    obtain ⟨x, hx, hxa⟩ := List.mem_map.1 ha
    have := hm.old x hx
    omega
  · intro x hx
    rw [List.mem_append] at hx
    rcases hx with hx | hx
    · have := hm.old x hx; omega
    · simp at hx; subst hx; simp
theorem Mp.turn {w' : World} (hm : Mp P kt w bk m clock) (j : Nat) (v : Value) (hh : w'.heap[bk]? = some (.map ((m.modify j fun x => (x.1, v, x.2.2)).map fun x => (⟨I.key x.1, x.2.1, x.2.2⟩ : MapEntry)).toArray clock)) : Mp P kt w' bk (m.modify j fun x => (x.1, v, x.2.2)) clock := by
  refine ⟨hh, ?_, ?_, ?_⟩
  · rw [map_mod (·.1) m j (fun x => (x.1, v, x.2.2)) (fun _ => rfl)]; exact hm.keys
  · rw [map_mod (·.2.2) m j (fun x => (x.1, v, x.2.2)) (fun _ => rfl)]; exact hm.born
  · intro x hx
    have : x.2.2 ∈ (m.modify j fun x => (x.1, v, x.2.2)).map (·.2.2) := List.mem_map.2 ⟨x, hx, rfl⟩
    rw [map_mod (·.2.2) m j (fun x => (x.1, v, x.2.2)) (fun _ => rfl)] at this
    obtain ⟨y, hy, he⟩ := List.mem_map.1 this
    rw [← he]; exact hm.old y hy
theorem ent_modify (m : Es κ) (j : Nat) (p : MapEntry → MapEntry) (q : κ × Value × Nat → κ × Value × Nat) (h : ∀ hj : j < m.length, p ⟨I.key m[j].1, m[j].2.1, m[j].2.2⟩ = ⟨I.key (q m[j]).1, (q m[j]).2.1, (q m[j]).2.2⟩) :
    (m.map fun x => (⟨I.key x.1, x.2.1, x.2.2⟩ : MapEntry)).toArray.modify j p = ((m.modify j q).map fun x => (⟨I.key x.1, x.2.1, x.2.2⟩ : MapEntry)).toArray := by
  apply Array.ext'
  rw [Array.toList_modify]
  apply List.ext_getElem?
  intro i
  simp only [List.getElem?_modify, List.getElem?_map]
  by_cases hij : j = i
  · subst hij
    rcases Nat.lt_or_ge j m.length with hj | hj
    · have := h hj
      simp [hj, this]
    · simp [Nat.not_lt.2 hj]
  · simp [hij]
theorem run_update {t e : Nat} {k : κ} {v : Value} (ht : P.underlying t = some (.map kt e)) (hm : Mp P kt w bk m clock) :
    ∃ w' clock', (Instr.mapUpdate t (.map (some bk)) (I.key k) v).run P w = .ok () w' ∧ Chg bk w w' ∧ Mp P kt w' bk (aset k v clock m) clock' := by
  have hf := I.find k m w
  have hc := I.check k false w
  cases hr : fnd k m 0 with
  | none =>
    have hn := aset_none k v clock m 0 hr
    refine ⟨{ w with heap := w.heap.setIfInBounds bk (.map ((m.map fun x => (⟨I.key x.1, x.2.1, x.2.2⟩ : MapEntry)).toArray.push ⟨I.key k, v, clock⟩) (clock + 1)) }, clock + 1, ?_, chg_set w bk _, ?_⟩
    · unfold Instr.mapUpdate
      simp only [Sem.run_bind, run_underlying ht, Result.andThen_ok, run_getO hm.heap, hc, hf, hr, run_setO hm.heap]
    · rw [hn]
      exact hm.grow v hr (by rw [getElem?_setIf _ _ _ hm.lt]; simp)
  | some r =>
    obtain ⟨j, u⟩ := r
    have hn := aset_found k v clock m 0 j u hr
    obtain ⟨h1, h2, h3, h4⟩ := fnd_spec k m 0 j u hr
    rw [Nat.sub_zero] at hn h1
    simp only [Nat.sub_zero] at h3 h4
    refine ⟨{ w with heap := w.heap.setIfInBounds bk (.map ((m.map fun x => (⟨I.key x.1, x.2.1, x.2.2⟩ : MapEntry)).toArray.modify j fun e => { e with key := I.key k, val := v }) clock) }, clock, ?_, chg_set w bk _, ?_⟩
    · unfold Instr.mapUpdate
      have hk : (((m.map fun x => (⟨I.key x.1, x.2.1, x.2.2⟩ : MapEntry)).toArray[j]?).map (·.key)).getD (I.key k) = I.key k := by
        simp [h1, h3]
      simp only [Sem.run_bind, run_underlying ht, Result.andThen_ok, run_getO hm.heap, hc, hf, hr, hk, Instr.keyThatStays, I.bits, if_true, Sem.run_pure, run_setO hm.heap]
    · rw [hn]
      exact hm.turn j v (by rw [getElem?_setIf _ _ _ hm.lt, ent_modify m j _ (fun x => (x.1, v, x.2.2)) (fun hj => by simp [h3])])
/-- m[k] = v -/
theorem W.mup {t e : Nat} {x y z : Operand} {k : κ} {v : Value} (ht : P.underlying t = some (.map kt e)) (hx : ev l x = some (true, .map (some bk))) (hy : ev l y = some (true, I.key k)) (hz : ev l z = some (true, v)) (hm : Mp P kt w bk m clock)
    (h : ∀ w' clock', Chg bk w w' → Mp P kt w' bk (aset k v clock m) clock' → W N P ops Q K rest l w') : W N P ops Q K (⟨none, .mapUpdate t x y z, ty, pos, af, none⟩ :: rest) l w :=
  W.st (fun w' => ∃ clock', Chg bk w w' ∧ Mp P kt w' bk (aset k v clock m) clock') rfl rfl (fun a ha => by
    obtain ⟨w', clock', h1, h2, h3⟩ := run_update (k := k) (v := v) ht hm
    exact ⟨w', by simp [execOp, ha.eval hx rfl, ha.eval hy rfl, ha.eval hz rfl, h1], clock', h2, h3⟩) fun w' ⟨clock', h2, h3⟩ => h w' clock' h2 h3

/-- len(m) -/
theorem W.lenm {t e ty' : Nat} {x : Operand} (ht : P.underlying t = some (.map kt e)) (hx : ev l x = some (cx, .map (some bk))) (hg : gd ops l ⟨some d, .call { callee := .builtin .len, args := #[x], argTypes := #[t] }, ty, pos, af, g⟩ = some c) (hcx : c = true → cx = true) (hm : c = true → Mp P kt w bk m clock) (hN : Nat.ble (d + 1) N.n = true)
    (h : W N P ops Q K rest ((d, c, .int .i64 m.length) :: l) w) : W N P ops Q K (⟨some d, .call { callee := .builtin .len, args := #[x], argTypes := #[t] }, ty, pos, af, g⟩ :: rest) l w :=
  W.op hg rfl hN (fun hc a ha => by
    have := (hm hc).heap
    simp [execOp, resolve, invoke, builtin, ha.eval hx (hcx hc), Builtin.len_, run_underlying ht, run_getO this, goInt]) h

/-- The entry's stamp. -/
def Stamped (m : Es κ) (k : κ) (s : Nat) : Prop := ∃ v, (k, v, s) ∈ m
theorem run_mapEntry {t e : Nat} [E : TyI P e] {k : κ} (ht : P.underlying t = some (.map kt e)) (hm : Mp P kt w bk m clock) :
    ∃ w' clock' s m', (Instr.mapEntry t (.map (some bk)) (I.key k)).run P w = .ok (.tuple #[(aget k m).getD (bif E.i.agg then .agg E.i.zero.toArray else E.i.zero.headD undef), .int .i64 (s : Nat)]) w' ∧ Chg bk w w' ∧ Mp P kt w' bk m' clock' ∧ Stamped m' k s ∧ (∀ v c, ∃ c', aset k v c m' = aset k v c' m) := by
  have hf := I.find k m w
  have hc := I.check k false w
  have hg := fnd_get k m 0
  cases hr : fnd k m 0 with
  | none =>
    rw [hr] at hg
    rw [← hg]
    refine ⟨{ w with heap := w.heap.setIfInBounds bk (.map ((m.map fun x => (⟨I.key x.1, x.2.1, x.2.2⟩ : MapEntry)).toArray.push ⟨I.key k, bif E.i.agg then .agg E.i.zero.toArray else E.i.zero.headD undef, clock⟩) (clock + 1)) }, clock + 1, clock, m ++ [(k, bif E.i.agg then .agg E.i.zero.toArray else E.i.zero.headD undef, clock)], ?_, chg_set w bk _, ?_, ⟨_, List.mem_append_right _ (List.mem_singleton.2 rfl)⟩, fun v c => ⟨clock, ?_⟩⟩
    · unfold Instr.mapEntry
      simp only [Sem.run_bind, run_underlying ht, Result.andThen_ok, run_getO hm.heap, hc, hf, hr, run_setO hm.heap, E.hzero, Sem.run_pure, goInt, Option.map_none, Option.getD_none]
    · exact hm.grow _ hr (by rw [getElem?_setIf _ _ _ hm.lt]; simp)
    · rw [aset_none k v clock m 0 hr]
      have : ∀ (l : Es κ) i z n, fnd k l i = none → aset k v c (l ++ [(k, z, n)]) = l ++ [(k, v, n)] := by
        intro l
        induction l with
        | nil => intro i z n _; simp [aset]
        | cons x l ih =>
          intro i z n h
          simp only [fnd] at h
          split at h
          · cases h
          · rename_i hk
            simp only [List.cons_append, aset, if_neg hk, ih (i + 1) z n h]
      exact this m 0 _ _ hr
  | some r =>
    obtain ⟨j, u⟩ := r
    obtain ⟨h1, h2, h3, h4⟩ := fnd_spec k m 0 j u hr
    rw [Nat.sub_zero] at h1
    simp only [Nat.sub_zero] at h3 h4
    rw [hr] at hg
    rw [← hg]
    refine ⟨{ w with heap := w.heap.setIfInBounds bk (.map (m.map fun x => (⟨I.key x.1, x.2.1, x.2.2⟩ : MapEntry)).toArray clock) }, clock, m[j].2.2, m, ?_, chg_set w bk _, hm.keep (by rw [getElem?_setIf _ _ _ hm.lt, hm.heap]), ⟨u, ?_⟩, fun v c => ⟨c, rfl⟩⟩
    · unfold Instr.mapEntry
      have hk : (((m.map fun x => (⟨I.key x.1, x.2.1, x.2.2⟩ : MapEntry)).toArray[j]?).map (·.key)).getD (I.key k) = I.key k := by
        simp [h1, h3]
      have hb : (((m.map fun x => (⟨I.key x.1, x.2.1, x.2.2⟩ : MapEntry)).toArray[j]?).map (fun x => (x.born : Int))).getD 0 = (m[j].2.2 : Int) := by
        simp [h1]
      have hmod : (m.map fun x => (⟨I.key x.1, x.2.1, x.2.2⟩ : MapEntry)).toArray.modify j (fun e => { e with key := I.key k }) = (m.map fun x => (⟨I.key x.1, x.2.1, x.2.2⟩ : MapEntry)).toArray := by
        rw [ent_modify m j _ id (fun hj => by simp [h3])]; simp
      simp only [Sem.run_bind, run_underlying ht, Result.andThen_ok, run_getO hm.heap, hc, hf, hr, hk, hb, Instr.keyThatStays, I.bits, if_true, Sem.run_pure, run_setO hm.heap, hmod, goInt, Option.map_some, Option.getD_some]
    · have : m[j] = (k, u, m[j].2.2) := by rw [← h3, ← h4]
      exact this ▸ List.getElem_mem h1

theorem fnd_at {k : κ} : ∀ {m : Es κ} {j : Nat} (i : Nat) (hj : j < m.length), (m.map (·.1)).Nodup → (m[j]).1 = k → fnd k m i = some (i + j, (m[j]).2.1)
  | [], j, i, hj, _, _ => by simp at hj
  | x :: m, 0, i, hj, hn, hk => by simp only [List.getElem_cons_zero] at hk; simp [fnd, hk]
  | x :: m, j + 1, i, hj, hn, hk => by
    simp only [List.getElem_cons_succ] at hk
    simp only [List.map_cons, List.nodup_cons] at hn
    have hjm : j < m.length := by simpa using hj
    have hne : ¬ k = x.1 := fun e => hn.1 (by rw [← e, ← hk]; exact List.mem_map.2 ⟨_, List.getElem_mem hjm, rfl⟩)
    simp only [fnd, if_neg hne, List.getElem_cons_succ, fnd_at (i + 1) hjm hn.2 hk]
    rw [Nat.add_assoc, Nat.add_comm 1 j]
theorem run_entryStore {t : Nat} {k : κ} {s : Nat} {v : Value} (hm : Mp P kt w bk m clock) (hs : Stamped m k s) :
    ∃ w', (Instr.entryStore t (.map (some bk)) (.int .i64 (s : Nat)) v).run P w = .ok () w' ∧ Chg bk w w' ∧ ∀ c, Mp P kt w' bk (aset k v c m) clock := by
  obtain ⟨u, hu⟩ := hs
  obtain ⟨j, hj, he⟩ := List.getElem_of_mem hu
  have hk : (m[j]).1 = k := by rw [he]
  have hb : (m[j]).2.2 = s := by rw [he]
  refine ⟨{ w with heap := w.heap.setIfInBounds bk (.map ((m.map fun x => (⟨I.key x.1, x.2.1, x.2.2⟩ : MapEntry)).toArray.modify j fun e => { e with val := v }) clock) }, ?_, chg_set w bk _, fun c => ?_⟩
  · have hf : (m.map fun x => (⟨I.key x.1, x.2.1, x.2.2⟩ : MapEntry)).toArray.findIdx? (fun e => (e.born : Int) == (s : Int)) = some j := by
      rw [Array.findIdx?_eq_some_iff_getElem]
      refine ⟨by simpa using hj, by simp [hb], fun i hi => ?_⟩
      have him : i < m.length := by omega
      simp only [List.getElem_toArray, List.getElem_map, Bool.not_eq_true, beq_eq_false_iff_ne, ne_eq, Int.ofNat_inj]
      intro heq
      have := List.pairwise_iff_getElem.1 hm.born i j (by simpa using him) (by simpa using hj) hi
      simp [heq, hb] at this
    unfold Instr.entryStore
    simp only [Sem.run_bind, run_getO hm.heap, Result.andThen_ok, asInt, asIntOf, Sem.run_map, Sem.run_pure, hf, run_setO hm.heap]
  · have h1 := fnd_at 0 hj hm.keys hk
    rw [aset_found k v c m 0 _ _ h1, Nat.zero_add, Nat.sub_zero]
    exact hm.turn j v (by rw [getElem?_setIf _ _ _ hm.lt, ent_modify m j _ (fun x => (x.1, v, x.2.2)) (fun hj => rfl)])
/-- m[k] op= .. : the entry, and its stamp -/
theorem W.men {t e : Nat} [E : TyI P e] {x y : Operand} {k : κ} (ht : P.underlying t = some (.map kt e)) (hx : ev l x = some (true, .map (some bk))) (hy : ev l y = some (true, I.key k)) (hm : Mp P kt w bk m clock) (hN : Nat.ble (d + 1) N.n = true)
    (h : ∀ w' clock' s m', Chg bk w w' → Mp P kt w' bk m' clock' → Stamped m' k s → (∀ v c, ∃ c', aset k v c m' = aset k v c' m) → W N P ops Q K rest ((d, true, .tuple #[(aget k m).getD (bif E.i.agg then .agg E.i.zero.toArray else E.i.zero.headD undef), .int .i64 (s : Nat)]) :: l) w') : W N P ops Q K (⟨some d, .mapEntry t x y, ty, pos, af, none⟩ :: rest) l w :=
  W.opw (c := true) (fun u w' => ∃ clock' s m', u = .tuple #[(aget k m).getD (bif E.i.agg then .agg E.i.zero.toArray else E.i.zero.headD undef), .int .i64 (s : Nat)] ∧ Chg bk w w' ∧ Mp P kt w' bk m' clock' ∧ Stamped m' k s ∧ (∀ v c, ∃ c', aset k v c m' = aset k v c' m)) rfl rfl hN (fun _ a ha => by
    obtain ⟨w', clock', s, m', h1, h2⟩ := run_mapEntry (k := k) (E := E) ht hm
    exact ⟨_, w', by simp [execOp, ha.eval hx rfl, ha.eval hy rfl, h1], clock', s, m', rfl, h2⟩) fun v' w' h1 _ => by
    obtain ⟨clock', s, m', rfl, h2, h3, h4, h5⟩ := h1 rfl
    exact h w' clock' s m' h2 h3 h4 h5
theorem W.est {t : Nat} {x y z : Operand} {k : κ} {s : Nat} {v : Value} (hx : ev l x = some (true, .map (some bk))) (hy : ev l y = some (true, .int .i64 (s : Nat))) (hz : ev l z = some (true, v)) (hm : Mp P kt w bk m clock) (hs : Stamped m k s)
    (h : ∀ w', Chg bk w w' → (∀ c, Mp P kt w' bk (aset k v c m) clock) → W N P ops Q K rest l w') : W N P ops Q K (⟨none, .entryStore t x y z, ty, pos, af, none⟩ :: rest) l w :=
  W.st (fun w' => Chg bk w w' ∧ ∀ c, Mp P kt w' bk (aset k v c m) clock) rfl rfl (fun a ha => by
    obtain ⟨w', h1, h2, h3⟩ := run_entryStore (t := t) (k := k) (v := v) hm hs
    exact ⟨w', by simp [execOp, ha.eval hx rfl, ha.eval hy rfl, ha.eval hz rfl, h1], h2, h3⟩) fun w' ⟨h2, h3⟩ => h w' h2 h3

/-! ### Ranging over a map that nothing is laid into -/
/-- Block r goes over the map in block b; what came out already: by its stamps. -/
structure Itr (w : World) (r b : Nat) (seen : Array Nat) (since last : Nat) : Prop where
  heap : w.heap[r]? = some (.mapIter (some b) since seen last)
  le : since ≤ last
theorem Itr.lt {r b since last : Nat} {seen : Array Nat} (h : Itr w r b seen since last) : r < w.heap.size := (Array.getElem?_eq_some_iff.1 h.heap).1
theorem Itr.keep {w' : World} {r b since last : Nat} {seen : Array Nat} (h : Itr w r b seen since last) (hb : w'.heap[r]? = w.heap[r]?) : Itr w' r b seen since last := ⟨hb.trans h.heap, h.le⟩
theorem W.rgm {t e : Nat} {x : Operand} (ht : P.underlying t = some (.map kt e)) (hx : ev l x = some (true, .map (some bk))) (hm : Mp P kt w bk m clock) (hN : Nat.ble (d + 1) N.n = true)
    (h : ∀ w', Below w.heap.size w w' → Itr w' w.heap.size bk #[] clock clock → W N P ops Q K rest ((d, true, .pointer (some ⟨w.heap.size, 0, none⟩)) :: l) w') : W N P ops Q K (⟨some d, .range t x, ty, pos, af, none⟩ :: rest) l w :=
  W.opw (c := true) (fun u w' => u = .pointer (some ⟨w.heap.size, 0, none⟩) ∧ Below w.heap.size w w' ∧ Itr w' w.heap.size bk #[] clock clock) rfl rfl hN (fun _ a ha => by
    refine ⟨_, w.alloc (.mapIter (some bk) clock #[] clock), ?_, rfl, (Below.refl _ _).alloc (Nat.le_refl _) _, ⟨heap_alloc_new w _, Nat.le_refl _⟩⟩
    simp only [execOp, ha.eval hx rfl, Instr.range, Sem.run_bind, run_underlying ht, Result.andThen_ok, run_getO hm.heap, Sem.run_pure, run_newObj]
    rfl) fun v' w' h1 _ => by
    obtain ⟨rfl, h2, h3⟩ := h1 rfl
    exact h w' h2 h3
/-- The next entry, or none is left. -/
theorem W.nxm {x : Operand} {r since last : Nat} {seen : Array Nat} (hx : ev l x = some (true, .pointer (some ⟨r, 0, none⟩))) (hi : Itr w r bk seen since last) (hm : Mp P kt w bk m clock) (hold : ∀ x ∈ m, x.2.2 < since) (hcl : since ≤ clock) (hN : Nat.ble (d + 1) N.n = true)
    (h0 : (∀ x ∈ m, seen.contains x.2.2 = true) → W N P ops Q K rest ((d, true, .tuple #[.bool false]) :: l) w)
    (h1 : ∀ x ∈ m, seen.contains x.2.2 = false → ∀ w', Chg r w w' → Itr w' r bk (seen.push x.2.2) since clock → W N P ops Q K rest ((d, true, .tuple #[.bool true, I.key x.1, x.2.1]) :: l) w') : W N P ops Q K (⟨some d, .next x false, ty, pos, af, none⟩ :: rest) l w :=
  W.opw (c := true) (fun u w' => ((∀ x ∈ m, seen.contains x.2.2 = true) ∧ u = .tuple #[.bool false] ∧ w' = w) ∨ ∃ x ∈ m, seen.contains x.2.2 = false ∧ u = .tuple #[.bool true, I.key x.1, x.2.1] ∧ Chg r w w' ∧ Itr w' r bk (seen.push x.2.2) since clock) rfl rfl hN (fun _ a ha => by
    have hl : ∀ e : MapEntry, e ∈ (leftOf (m.map fun x => (⟨I.key x.1, x.2.1, x.2.2⟩ : MapEntry)).toArray seen).toList ↔ ∃ x ∈ m, seen.contains x.2.2 = false ∧ e = ⟨I.key x.1, x.2.1, x.2.2⟩ := fun e => by
      unfold leftOf
      simp only [Array.toList_filter, List.mem_filter, List.mem_map, Bool.not_eq_true']
      constructor
      · rintro ⟨⟨x, hx, rfl⟩, h⟩; exact ⟨x, hx, h, rfl⟩
      · rintro ⟨x, hx, h, rfl⟩; exact ⟨⟨x, hx, rfl⟩, h⟩
    rcases run_next_at (P := P) w ty r bk since last seen _ clock hi.heap hm.heap (by
      intro e he
      simp only [List.mem_map] at he
      obtain ⟨x, hx, rfl⟩ := he
      exact hold x hx) hi.le with ⟨hz, hr⟩ | ⟨e, he, w1, hw1, hr⟩
    · refine ⟨_, w, by simp [execOp, ha.eval hx rfl, hr], .inl ⟨fun x hx => ?_, rfl, rfl⟩⟩
      cases hs : seen.contains x.2.2 with
      | true => rfl
      | false =>
        have := (hl ⟨I.key x.1, x.2.1, x.2.2⟩).2 ⟨x, hx, hs, rfl⟩
        rw [Array.eq_empty_of_size_eq_zero hz] at this
        simp at this
    · obtain ⟨z, hz, hs, rfl⟩ := (hl e).1 he
      have hrl := hi.lt
      have hw1' : w1.heap = w.heap ∧ w1.os = w.os ∧ w1.tape = w.tape ∧ w1.output = w.output := by rcases hw1 with rfl | rfl <;> exact ⟨rfl, rfl, rfl, rfl⟩
      refine ⟨_, ChangeMaps.setBlock w1 r (.mapIter (some bk) since (seen.push z.2.2) clock), by simp [execOp, ha.eval hx rfl, hr], .inr ⟨z, hz, hs, rfl, ⟨hw1'.2.1, hw1'.2.2.1, hw1'.2.2.2, ?_, fun k hk => ?_⟩, ⟨?_, hcl⟩⟩⟩
      · simp [ChangeMaps.setBlock, hw1'.1]
      · simp [ChangeMaps.setBlock, hw1'.1, Array.getElem?_setIfInBounds_ne (Ne.symm hk)]
      · simp [ChangeMaps.setBlock, hw1'.1, hrl]) fun v' w' hv _ => by
    rcases hv rfl with ⟨ha, rfl, rfl⟩ | ⟨z, hz, hs, rfl, h2, h3⟩
    · exact h0 ha
    · exact h1 z hz hs w' h2 h3
theorem W.ent {x : Operand} {r since : Nat} {seen : Array Nat} {z : κ × Value × Nat} (hx : ev l x = some (true, .pointer (some ⟨r, 0, none⟩))) (hi : Itr w r bk (seen.push z.2.2) since clock) (hm : Mp P kt w bk m clock) (hz : z ∈ m) (hN : Nat.ble (d + 1) N.n = true)
    (h : W N P ops Q K rest ((d, true, .tuple #[I.key z.1, z.2.1]) :: l) w) : W N P ops Q K (⟨some d, .entry x, ty, pos, af, none⟩ :: rest) l w :=
  W.op (c := true) rfl rfl hN (fun _ a ha => by
    have := run_entry_at (P := P) w r bk since seen _ clock ⟨I.key z.1, z.2.1, z.2.2⟩ hi.heap hm.heap (by simp only [List.mem_map]; exact ⟨z, hz, rfl⟩) (by have := hm.born; simpa [Function.comp_def] using this)
    simp [execOp, ha.eval hx rfl, this]) h
end

/-! ### Keys that are texts, and numbers -/
theorem ba_beq (a b : ByteArray) : (a == b) = decide (a = b) := by
  cases a with | mk a => cases b with | mk b =>
  show (a == b) = _
  by_cases h : a = b <;> simp [h]
theorem findNow_str (k : ByteArray) : ∀ (m : Es ByteArray) (i : Nat), Instr.findNow .string (.string k) (m.map fun x => (⟨.string x.1, x.2.1, x.2.2⟩ : MapEntry)) i = some (fnd k m i)
  | [], _ => rfl
  | x :: m, i => by
    simp only [List.map_cons, Instr.findNow, Instr.sameNow, fnd]
    by_cases h : k = x.1
    · have : (k == x.1) = true := by rw [ba_beq]; simp [h]
      rw [this, if_pos h]
    · have : (k == x.1) = false := by rw [ba_beq]; simp [h]
      rw [this, if_neg h]
      exact findNow_str k m (i + 1)
theorem findNow_int (q : IntKind) (k : Int) : ∀ (m : Es Int) (i : Nat), Instr.findNow (.int q) (.int q k) (m.map fun x => (⟨.int q x.1, x.2.1, x.2.2⟩ : MapEntry)) i = some (fnd k m i)
  | [], _ => rfl
  | x :: m, i => by
    simp only [List.map_cons, Instr.findNow, Instr.sameNow, fnd, if_true]
    by_cases h : k = x.1
    · have : (k == x.1) = true := by simp [h]
      rw [this, if_pos h]
    · have : (k == x.1) = false := by simp [h]
      rw [this, if_neg h]
      exact findNow_int q k m (i + 1)
abbrev keyStr {P : Program} {t : Nat} (h : P.underlying t = some .string) : KeyI P t ByteArray where
  key := .string
  find := fun k m w => by
    unfold Instr.findKey
    simp only [Sem.run_bind, run_underlying h, Result.andThen_ok, findNow_str, Sem.run_pure]
  check := fun k e w => by
    unfold Instr.checkKey
    simp only [Sem.run_bind, run_underlying h, Result.andThen_ok, Sem.run_pure]
  bits := fun k => by simp [Instr.sameBits, ba_beq]
abbrev keyInt {P : Program} {t : Nat} {q : IntKind} (h : P.underlying t = some (.int q)) : KeyI P t Int where
  key := .int q
  find := fun k m w => by
    unfold Instr.findKey
    simp only [Sem.run_bind, run_underlying h, Result.andThen_ok, findNow_int, Sem.run_pure]
  check := fun k e w => by
    unfold Instr.checkKey
    simp only [Sem.run_bind, run_underlying h, Result.andThen_ok, Sem.run_pure]
  bits := fun k => by simp [Instr.sameBits]
end Go.Ag
