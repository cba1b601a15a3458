/- Words of this claim: the evaluator's operations that read memory, and those that lay a new object. -/
import Derived.Test.YtpafhjaidpmeeaaGreatDoorEv6
import Derived.Laws.Append
import Derived.Laws.Cells
set_option linter.unusedVariables false
set_option linter.unusedSimpArgs false
namespace Go.Ev
open Go.RowKit

/-- The object behind a number, at its latest version. -/
def H.row (h : H) (z r : Nat) : Option (Nat × Nat × List AV × Bool) := match h.t.get z with
  | some (.row ty es cs q full) => match Nat.beq q r with
    | true => some (ty, es, cs, full)
    | false => none
  | _ => none
theorem H.row_ok {h : H} {z r ty es : Nat} {cs : List AV} {full : Bool} (k : h.row z r = some (ty, es, cs, full)) : h.t.get z = some (.row ty es cs r full) := by
  unfold H.row at k
  split at k
  · rename_i ty' es' cs' q full' hz
    split at k
    · rename_i hq
      have hq := Nat.eq_of_beq_eq_true hq; subst hq
      simp only [Option.some.injEq, Prod.mk.injEq] at k
      obtain ⟨rfl, rfl, rfl, rfl⟩ := k
      exact hz
    · cases k
  · cases k
def subAt (cs : List AV) (o n : Nat) : Option (List AV) := match Nat.ble (o + n) cs.length with
  | true => some (sub cs o n)
  | false => none
theorem subAt_ok {cs as : List AV} {o n : Nat} (h : subAt cs o n = some as) : o + n ≤ cs.length ∧ as = (cs.drop o).take n ∧ as.length = n := by
  unfold subAt at h
  split at h
  · rename_i hb
    have hb := Nat.le_of_ble_eq_true hb
    injection h with h
    exact ⟨hb, h.symm, by rw [← h]; simp [sub]; omega⟩
  · cases h

section
variable {P : Program} {T : TT} (hT : TOK P T) {E : Env} {h : H} {w : World}

/-- A row in the machine's memory. -/
theorem Sat.row (s : Sat E h w) {z r ty es : Nat} {cs : List AV} {full : Bool} (k : h.row z r = some (ty, es, cs, full)) : ∃ e cc lo hi, E z r = some e ∧ w.heap[e.b]? = some (.cells cc ty (lo, hi)) ∧ e.esz = es ∧ cc.size + e.sub = e.top ∧ e.sub ≤ cs.length ∧ cs.length ≤ e.top ∧
    (full = true → cs.length = e.top) ∧ (∀ o, o < cc.size → ¬ (lo ≤ o ∧ o < hi)) ∧ ∀ i a, e.sub ≤ i → cs[i]? = some a → ∃ u, cc[i - e.sub]? = some u ∧ VR E a u := by
  obtain ⟨e, ob, h1, h2, cc, lo, hi, rfl, h3⟩ := s.obj z _ (H.row_ok k)
  exact ⟨e, cc, lo, hi, h1, h2, h3⟩
/-- A part of a row, read. -/
theorem Sat.part (s : Sat E h w) {z r ty es : Nat} {cs : List AV} {full : Bool} (k : h.row z r = some (ty, es, cs, full)) {o n : Nat} {as : List AV} (ha : subAt cs o n = some as) {e : Ent} (he : E z r = some e) (hs : e.sub ≤ o) :
    ∃ us, VRs E as us ∧ ∀ (j : Nat) (v : Value), us[j]? = some v → w.cell? ((⟨e.b, o - e.sub, none⟩ : Addr).add j) = some v := by
  obtain ⟨e', cc, lo, hi, h1, h2, h3, h4, h5, h6, h7, h8, h9⟩ := s.row k
  rw [he] at h1; injection h1 with h1; subst h1
  obtain ⟨hl, rfl, hlen⟩ := subAt_ok ha
  have hcell : ∀ j, j < n → ∃ a u, cs[o + j]? = some a ∧ cc[o + j - e.sub]? = some u ∧ VR E a u := fun j hj => by
    have : o + j < cs.length := by omega
    obtain ⟨u, hu, hr⟩ := h9 (o + j) cs[o + j] (by omega) (List.getElem?_eq_getElem this)
    exact ⟨_, u, List.getElem?_eq_getElem this, hu, hr⟩
  refine ⟨((cc.toList.drop (o - e.sub)).take n), VRs.of_fn ?_ fun i a hi => ?_, fun j v hj => ?_⟩
  · rw [hlen]; simp; omega
  · rw [List.getElem?_take] at hi
    split at hi
    · rename_i hin
      rw [List.getElem?_drop] at hi
      obtain ⟨a', u, h10, h11, h12⟩ := hcell i hin
      rw [h10] at hi; injection hi with hi; subst hi
      refine ⟨u, ?_, h12⟩
      rw [List.getElem?_take, if_pos hin, List.getElem?_drop, Array.getElem?_toList]
      rw [← h11]; congr 1; omega
    · cases hi
  · rw [List.getElem?_take] at hj
    split at hj
    · rename_i hin
      rw [List.getElem?_drop, Array.getElem?_toList] at hj
      have : (⟨e.b, o - e.sub, none⟩ : Addr).add j = ⟨e.b, o - e.sub + j, none⟩ := by unfold Addr.add; split <;> simp_all
      rw [this]
      simp only [World.cell?, h2]
      simpa using hj
    · cases hj

def aLoad (T : TT) (h : H) (t : TypeId) (x : AV) : Option AV := match x, T.at t with
  | .ptr z r o, some td => match h.row z r with
    | some (_, _, cs, _) => match td.agg with
      | true => match subAt cs o td.size with
        | some as => some (.agg as)
        | none => none
      | false => cs[o]?
    | none => none
  | _, _ => none
include hT in
theorem aLoad_ok (s : Sat E h w) {t : TypeId} {x r : AV} {u : Value} (k : aLoad T h t x = some r) (hx : VR E x u) : ∃ z, (Instr.loadAt t u).run P w = .ok z w ∧ VR E r z := by
  unfold aLoad at k
  split at k
  · rename_i z r' o td htd
    obtain ⟨e, he, hs, rfl⟩ := hx
    split at k
    · rename_i ty es cs full hrow
      split at k
      · rename_i hag
        split at k
        · rename_i as has
          injection k with k; subst k
          obtain ⟨us, h1, h2⟩ := s.part hrow has he hs
          refine ⟨.agg us.toArray, ?_, us, rfl, h1⟩
          have hl : us.length = td.size := by rw [h1.len]; exact (subAt_ok has).2.2
          have h3 := run_loadCells_list (P := P) (w := w) (⟨e.b, o - e.sub, none⟩ : Addr) us h2
          rw [hl] at h3
          simp only [Instr.loadAt, Instr.sureAddr, Sem.run_bind, Sem.run_pure, Result.andThen_ok, loadVar, hT.agg htd, hag, if_true, hT.size htd, h3]
        · cases k
      · rename_i hag
        obtain ⟨e', cc, lo, hi, h1, h2, h3, h4, h5, h6, h7, h8, h9⟩ := s.row hrow
        rw [he] at h1; injection h1 with h1; subst h1
        obtain ⟨v, hv, hr⟩ := h9 o r hs k
        refine ⟨v, ?_, hr⟩
        simp only [Instr.loadAt, Instr.sureAddr, Sem.run_bind, Sem.run_pure, Result.andThen_ok, loadVar, hT.agg htd, hag, Bool.false_eq_true, if_false, run_load, World.cell?, h2, Option.isSome_none, hv]
    · cases k
  · cases k

/-! ### Maps -/
/-- Is a key's type a number's, a text's, a bool's, or a struct of such? -/
def keyT (T : TT) (t : TypeId) : Bool := match T.at t with
  | some td => match td.kd with
    | .bool => true
    | .int _ => true
    | .str => true
    | _ => false
  | none => false
def keyFs (T : TT) : List (TypeId × Nat × Bool) → List AV → Bool
  | [], _ => true
  | (t, o, b) :: fs, xs => match b, keyT T t, xs[o]? with
    | false, true, some _ => match T.at t with
      | some td => match td.agg with
        | false => keyFs T fs xs
        | true => false
      | none => false
    | _, _, _ => false
def keyOk (T : TT) (t : TypeId) (x : AV) : Bool := match keyT T t with
  | true => true
  | false => match T.at t, x with
    | some td, .agg xs => match td.kd with
      | .struct fs => match td.seq with
        | true => keyFs T fs xs
        | false => false
      | _ => false
    | _, _ => false
include hT in
theorem keyT_ok {t : TypeId} (k : keyT T t = true) (b : Bool) (n : Nat) (v : Value) : (Instr.checkKey b (n + 1) t v).run P w = .ok () w := by
  unfold keyT at k
  split at k
  · rename_i td htd
    split at k
    · rename_i hk
      have hu := hT.bool htd hk
      simp only [Instr.checkKey, Sem.run_bind, run_underlying hu, Result.andThen_ok]; rfl
    · rename_i kk hk
      have hu := hT.int htd hk
      simp only [Instr.checkKey, Sem.run_bind, run_underlying hu, Result.andThen_ok]; rfl
    · rename_i hk
      have hu := hT.str htd hk
      simp only [Instr.checkKey, Sem.run_bind, run_underlying hu, Result.andThen_ok]; rfl
    · cases k
  · cases k
include hT in
theorem keyOk_ok {t : TypeId} {x : AV} {u : Value} (k : keyOk T t x = true) (hx : VR E x u) (b : Bool) : (Instr.checkKey b 10000 t u).run P w = .ok () w := by
  have key : ∀ n, (Instr.checkKey b (n + 1 + 1) t u).run P w = .ok () w := fun n => by
    unfold keyOk at k
    split at k
    · rename_i hk; exact keyT_ok hT hk b _ u
    · split at k
      · rename_i td xs htd
        split at k
        · rename_i fs hk
          split at k
          · obtain ⟨us, rfl, hus⟩ := hx
            obtain ⟨fs', hu, hfs⟩ := hT.struct htd hk
            rw [← hfs] at k
            have hk2 : ∀ (t : TypeId) (v : Value), keyT T t = true → (Instr.checkKey b (n + 1) t v).run P w = .ok () w := fun t v h => keyT_ok hT h b n v
            rw [Instr.checkKey]
            simp only [Sem.run_bind, run_underlying hu, Result.andThen_ok]
            rw [← Array.forIn_toList]
            clear hfs hu hk
            revert k
            generalize fs'.toList = fl
            intro k
            induction fl with
            | nil => simp
            | cons f fl ih =>
              simp only [List.map_cons, keyFs] at k
              split at k
              · rename_i x hb hkt hxo
                split at k
                · rename_i td' htd'
                  split at k
                  · rename_i hag
                    obtain ⟨u, hu, _⟩ := hus.at _ hxo
                    have hn : f.name ≠ "_" := by simpa using hb
                    have hp : (part f.type us.toArray f.offset).run P w = .ok u w := by
                      unfold part
                      simp only [Sem.run_bind, hT.agg htd', hag, Result.andThen_ok, Bool.false_eq_true, if_false, List.getElem?_toArray, hu, Sem.run_pure]
                    have ih := ih k
                    simp only [List.forIn_cons, Sem.run_bind, hn, ne_eq, not_false_eq_true, if_true, hp, Result.andThen_ok, hk2 _ _ hkt, Sem.run_pure]
                    exact ih
                  · cases k
                · cases k
              · cases k
          · cases k
        · cases k
      · cases k
  exact key 9998

/-- Are two keys alike? -/
def kEqA (T : TT) (t : TypeId) (x y : AV) : Option Bool := match T.at t with
  | none => none
  | some td => match td.kd, x, y with
    | .struct fs, .agg xs, .agg ys => match td.seq with
      | true => fieldsEq T fs xs ys
      | false => none
    | _, _, _ => scalarEq T t x y
def findA (T : TT) (t : TypeId) (k : AV) : List (AV × AV × Nat) → Nat → Option (Option (Nat × AV))
  | [], _ => some none
  | (k', v, _) :: es, i => match kEqA T t k k' with
    | some true => some (some (i, v))
    | some false => findA T t k es (i + 1)
    | none => none
include hT in
theorem kEqA_ok {t : TypeId} {x y : AV} {u v : Value} {r : Bool} (k : kEqA T t x y = some r) (hx : VR E x u) (hy : VR E y v) : (Op.equal t u v).run P w = .ok r w := by
  unfold kEqA at k
  split at k
  · cases k
  · rename_i td htd
    split at k
    · rename_i fs xs ys hk
      split at k
      · rename_i hsq
        obtain ⟨us, rfl, hx⟩ := hx
        obtain ⟨vs, rfl, hy⟩ := hy
        obtain ⟨fs', hu, hfs⟩ := hT.struct htd hk
        obtain ⟨hg, hst⟩ := hT.seq htd hsq
        have hf : P.fieldsOf t = fs' := by simp [Program.fieldsOf, hu]
        have h1 := run_equalIn_struct (P := P) w 9999 t us.toArray vs.toArray (by rw [hf]; exact hu) hst
        rw [hf] at h1
        rw [← hfs] at k
        rw [fieldsEq_ok hT w 9998 k hx hy] at h1
        exact h1
      · cases k
    · exact scalarEq_ok hT w k hx hy 9999
include hT in
theorem kEqA_now {t : TypeId} {d : TypeDesc} (hd : P.underlying t = some d) {x y : AV} {u v : Value} {r : Bool} (k : kEqA T t x y = some r) (hx : VR E x u) (hy : VR E y v) : Instr.sameNow d u v = some r ∨ Instr.sameNow d u v = none := by
  unfold kEqA at k
  split at k
  · cases k
  · rename_i td htd
    split at k
    · rename_i fs xs ys hk
      obtain ⟨us, rfl, hx⟩ := hx
      obtain ⟨vs, rfl, hy⟩ := hy
      right; cases d <;> rfl
    · unfold scalarEq at k
      rw [htd] at k
      simp only at k
      split at k
      · rename_i a b hk hne
        injection k with k; subst k
        simp only [VR] at hx hy; subst hx; subst hy
        have hu := hT.bool htd hk
        rw [hd] at hu; injection hu with hu; subst hu
        left; rfl
      · rename_i k0 kk a k' b hk hne
        split at k
        · rename_i hkk
          injection k with k; subst k
          have := kEq_eq hkk; subst this
          simp only [VR] at hx hy; subst hx; subst hy
          have hu := hT.int htd hk
          rw [hd] at hu; injection hu with hu; subst hu
          left; simp [Instr.sameNow, eqI_eq]
        · cases k
      · rename_i a b hk hne
        injection k with k; subst k
        simp only [VR] at hx hy
        obtain ⟨rfl, hx⟩ := hx
        obtain ⟨rfl, hy⟩ := hy
        have hu := hT.str htd hk
        rw [hd] at hu; injection hu with hu; subst hu
        left
        simp only [Instr.sameNow, beq_toListBytes, mkS_eq hx hy]
      · cases k
/-- What is found, on both sides. -/
def FR (E : Env) : Option (Nat × AV) → Option (Nat × Value) → Prop
  | none, u => u = none
  | some (i, a), u => ∃ v, u = some (i, v) ∧ VR E a v
include hT in
theorem findAsk_ok {t : TypeId} {x : AV} {u : Value} (hx : VR E x u) : ∀ {es : List (AV × AV × Nat)} {ms : List MapEntry} {i : Nat} {r : Option (Nat × AV)}, findA T t x es i = some r → ERs E es ms → ∃ r', (Instr.findAsking t u ms i).run P w = .ok r' w ∧ FR E r r'
  | [], ms, i, r, k, he => by
    simp only [findA, Option.some.injEq] at k; subst k
    simp only [ERs] at he; subst he
    exact ⟨none, rfl, rfl⟩
  | (k', v, b) :: es, ms, i, r, k, he => by
    obtain ⟨m, ms', rfl, h1, h2, h3, h4⟩ := he
    simp only [findA] at k
    split at k
    · rename_i hq
      injection k with k; subst k
      refine ⟨some (i, m.val), ?_, _, rfl, h2⟩
      simp [Instr.findAsking, kEqA_ok hT hq hx h1]
    · rename_i hq
      obtain ⟨r', hr1, hr2⟩ := findAsk_ok hx k h4
      refine ⟨r', ?_, hr2⟩
      simp [Instr.findAsking, kEqA_ok hT hq hx h1, hr1]
    · cases k
include hT in
theorem findNow_ok {t : TypeId} {d : TypeDesc} (hd : P.underlying t = some d) {x : AV} {u : Value} (hx : VR E x u) : ∀ {es : List (AV × AV × Nat)} {ms : List MapEntry} {i : Nat} {r : Option (Nat × AV)}, findA T t x es i = some r → ERs E es ms → (∃ r', Instr.findNow d u ms i = some r' ∧ FR E r r') ∨ Instr.findNow d u ms i = none
  | [], ms, i, r, k, he => by
    simp only [findA, Option.some.injEq] at k; subst k
    simp only [ERs] at he; subst he
    exact .inl ⟨none, rfl, rfl⟩
  | (k', v, b) :: es, ms, i, r, k, he => by
    obtain ⟨m, ms', rfl, h1, h2, h3, h4⟩ := he
    simp only [findA] at k
    split at k
    · rename_i hq
      injection k with k; subst k
      rcases kEqA_now hT hd hq hx h1 with h | h
      · exact .inl ⟨some (i, m.val), by simp [Instr.findNow, h], _, rfl, h2⟩
      · exact .inr (by simp [Instr.findNow, h])
    · rename_i hq
      rcases kEqA_now hT hd hq hx h1 with h | h
      · rcases findNow_ok hd hx k h4 with ⟨r', hr1, hr2⟩ | hr
        · exact .inl ⟨r', by simp [Instr.findNow, h, hr1], hr2⟩
        · exact .inr (by simp [Instr.findNow, h, hr])
      · exact .inr (by simp [Instr.findNow, h])
    · cases k
include hT in
theorem findKey_ok {t : TypeId} {td : TD} (htd : T.at t = some td) {x : AV} {u : Value} (hx : VR E x u) {es : List (AV × AV × Nat)} {ms : List MapEntry} {r : Option (Nat × AV)} (k : findA T t x es 0 = some r) (he : ERs E es ms) :
    ∃ r', (Instr.findKey t u ms).run P w = .ok r' w ∧ FR E r r' := by
  obtain ⟨i, d, hi, hd, _⟩ := hT.get htd
  rcases findNow_ok hT hd hx k he with ⟨r', hr1, hr2⟩ | hr
  · exact ⟨r', by simp [Instr.findKey, run_underlying hd, hr1], hr2⟩
  · obtain ⟨r', hr1, hr2⟩ := findAsk_ok (w := w) hT hx k he
    exact ⟨r', by simp [Instr.findKey, run_underlying hd, hr, hr1], hr2⟩
theorem run_getMap {b : Nat} {es : Array MapEntry} {c : Nat} (hb : w.heap[b]? = some (.map es c)) : (getObj b).run P w = .ok (.map es c) w := by
  simp [getObj, Sem.run, hb]
theorem run_setMap {b : Nat} {o ob : Obj} (hb : w.heap[b]? = some ob) (hc : ∀ c e f, ob ≠ .cells c e f) : (setObj b o).run P w = .ok () { w with heap := w.heap.setIfInBounds b o } := by
  cases ob <;> first | (exact absurd rfl (hc _ _ _)) | simp [setObj, Sem.run, hb]

def okV (ok : Bool) (a : AV) (b : Bool) : AV := match ok with
  | true => .tup [a, .bool b]
  | false => a
theorem okV_ok {a : AV} {v : Value} (k : VR E a v) (ok b : Bool) : VR E (okV ok a b) (if ok then .tuple #[v, .bool b] else v) := by
  cases ok with
  | true => exact ⟨[v, .bool b], rfl, v, _, rfl, k, _, _, rfl, rfl, rfl⟩
  | false => exact k
def H.map (h : H) (x : AV) : Option (List (AV × AV × Nat)) := match x with
  | .mapN => some []
  | .map z => match h.t.get z with
    | some (.mp es _) => some es
    | _ => none
  | _ => none
def aLookup (T : TT) (h : H) (t : TypeId) (x k : AV) (ok : Bool) : Option AV := match T.at t, h.map x with
  | some td, some es => match td.kd with
    | .map kt et => match keyOk T kt k, T.at kt, T.at et with
      | true, some _, some ed => match findA T kt k es 0 with
        | some (some (_, v)) => some (okV ok v true)
        | some none => match ed.zero with
          | some z => some (okV ok z false)
          | none => none
        | none => none
      | _, _, _ => none
    | _ => none
  | _, _ => none
theorem Sat.map (s : Sat E h w) {x : AV} {es : List (AV × AV × Nat)} (k : h.map x = some es) {u : Value} (hx : VR E x u) : ∃ ms : List MapEntry, ERs E es ms ∧ ((u = .map none ∧ ms = []) ∨ ∃ b c, u = .map (some b) ∧ w.heap[b]? = some (.map ms.toArray c)) := by
  unfold H.map at k
  split at k
  · injection k with k; subst k
    simp only [VR] at hx
    exact ⟨[], rfl, .inl ⟨hx, rfl⟩⟩
  · rename_i z
    split at k
    · rename_i es' c hz
      injection k with k; subst k
      obtain ⟨e, he, rfl⟩ := hx
      obtain ⟨e', ob, h1, h2, ms, rfl, h3⟩ := s.obj z _ hz
      simp only [OB.ver] at h1
      rw [he] at h1; injection h1 with h1; subst h1
      exact ⟨ms, h3, .inr ⟨e.b, c, rfl, h2⟩⟩
    · cases k
  · cases k
include hT in
theorem aLookup_ok (s : Sat E h w) {t : TypeId} {x k r : AV} {ok : Bool} {u v : Value} (hh : aLookup T h t x k ok = some r) (hx : VR E x u) (hk : VR E k v) : ∃ z, (Instr.lookup t u v ok).run P w = .ok z w ∧ VR E r z := by
  unfold aLookup at hh
  split at hh
  · rename_i td es htd hes
    split at hh
    · rename_i kt et hkd
      split at hh
      · rename_i ktd ed hko hktd hed
        obtain ⟨ms, hms, hu⟩ := s.map hes hx
        have hmap := hT.map htd hkd
        have hget : (match u with
          | .map none => pure #[]
          | .map (some r) => do
            let .map es _ ← getObj r | stuck "Lookup: map expected"
            pure es
          | _ => stuck "Lookup: map expected" : Sem (Array MapEntry)).run P w = .ok ms.toArray w := by
          rcases hu with ⟨rfl, rfl⟩ | ⟨b, c, rfl, hb⟩
          · rfl
          · simp only [Sem.run_bind, run_getMap hb, Result.andThen_ok, Sem.run_pure]
        have hck := keyOk_ok (w := w) hT hko hk ms.toArray.isEmpty
        split at hh
        · rename_i i v' hf
          injection hh with hh; subst hh
          obtain ⟨r', hr1, v'', rfl, hv⟩ := findKey_ok (w := w) hT hktd hk hf hms
          refine ⟨_, ?_, okV_ok hv ok true⟩
          rcases hu with ⟨rfl, rfl⟩ | ⟨b, c, rfl, hb⟩
          · simp only [Instr.lookup, Sem.run_bind, run_underlying hmap, Result.andThen_ok, Sem.run_pure, hck, hr1]
          · simp only [Instr.lookup, Sem.run_bind, run_underlying hmap, Result.andThen_ok, run_getMap hb, Sem.run_pure, hck, hr1]
        · rename_i hf
          split at hh
          · rename_i z hz
            injection hh with hh; subst hh
            obtain ⟨r', hr1, rfl⟩ := findKey_ok (w := w) hT hktd hk hf hms
            obtain ⟨vz, hzr, hzv⟩ := hT.zero hed hz w
            refine ⟨_, ?_, okV_ok (hzv E) ok false⟩
            rcases hu with ⟨rfl, rfl⟩ | ⟨b, c, rfl, hb⟩
            · simp only [Instr.lookup, Sem.run_bind, run_underlying hmap, Result.andThen_ok, Sem.run_pure, hck, hr1, hzr]
            · simp only [Instr.lookup, Sem.run_bind, run_underlying hmap, Result.andThen_ok, run_getMap hb, Sem.run_pure, hck, hr1, hzr]
          · cases hh
        · cases hh
      · cases hh
    · cases hh
  · cases hh
end
end Go.Ev
