/- Words of this claim: the evaluator's operations that write: stores, maps, append, copy, clear. -/
import Derived.Test.YtpafhjaidpmeeaaGreatDoorEv8
set_option linter.unusedVariables false
set_option linter.unusedSimpArgs false
namespace Go.Ev
open Go.RowKit

section
variable {P : Program} {T : TT} (hT : TOK P T) {E : Env} {h : H} {w : World}

/-- Cells stored into a block. -/
theorem st_cells {b ty lo hi : Nat} : ∀ (vs : List Value) (w : World) (cc : List Value) (o i : Nat), w.heap[b]? = some (.cells cc.toArray ty (lo, hi)) → (∀ o, o < cc.length → ¬ (lo ≤ o ∧ o < hi)) → o + i + vs.length ≤ cc.length → (∀ v ∈ vs, v.oneCell' = true) →
    ∃ w', (storeCells ⟨b, o, none⟩ vs i).run P w = .ok () w' ∧ w'.heap[b]? = some (.cells (spl cc (o + i) vs).toArray ty (lo, hi)) ∧ (∀ k, k ≠ b → w'.heap[k]? = w.heap[k]?) ∧ w'.heap.size = w.heap.size ∧ w'.os = w.os ∧ w'.tape = w.tape ∧ w'.output = w.output
  | [], w, cc, o, i, hb, hf, hl, h1 => ⟨w, rfl, by rw [spl_nil]; exact hb, fun _ _ => rfl, rfl, rfl, rfl, rfl⟩
  | v :: vs, w, cc, o, i, hb, hf, hl, h1 => by
    simp only [List.length_cons] at hl
    have ha : (⟨b, o, none⟩ : Addr).add i = ⟨b, o + i, none⟩ := by unfold Addr.add; split <;> simp_all
    have hc : w.cell? ⟨b, o + i, none⟩ = some (cc[o + i]'(by omega)) := by
      simp only [World.cell?, hb]
      simp [List.getElem?_eq_getElem (show o + i < cc.length by omega)]
    have hfr : w.frozen? ⟨b, o + i, none⟩ = false := by
      simp only [World.frozen?, hb]
      have := hf (o + i) (by omega)
      simp only [Bool.and_eq_false_iff, decide_eq_false_iff_not]
      omega
    have hset : (w.setCell ⟨b, o + i, none⟩ v).heap[b]? = some (.cells (cc.set (o + i) v).toArray ty (lo, hi)) := by
      simp only [World.setCell, Array.getElem?_modify, if_true, hb, Option.map_some]
      simp
    obtain ⟨w', hr, hb', ho, hs, h5, h6, h7⟩ := st_cells vs (w.setCell ⟨b, o + i, none⟩ v) (cc.set (o + i) v) o (i + 1) hset (by simpa using hf) (by simp; omega) (fun u hu => h1 u (List.mem_cons_of_mem _ hu))
    refine ⟨w', ?_, ?_, fun k hk => ?_, by rw [hs]; simp [World.setCell], h5, h6, h7⟩
    · simp only [storeCells, Sem.run_bind, ha, run_store P w _ v .plain (h1 v List.mem_cons_self), hc, hfr, Bool.false_eq_true, if_false, Result.andThen_ok]
      exact hr
    · rw [hb', ← Nat.add_assoc, spl_cons cc (o + i) v vs (by omega)]
    · rw [ho k hk]
      simp only [World.setCell, Array.getElem?_modify]
      rw [if_neg (by omega)]

theorem VRs.ones {as : List AV} {us : List Value} (k : VRs E as us) (ho : as.all AV.one = true) : ∀ u ∈ us, u.oneCell' = true := by
  induction as generalizing us with
  | nil => simp only [VRs] at k; subst k; intro u hu; cases hu
  | cons a as ih =>
    obtain ⟨u, us', rfl, h1, h2⟩ := k
    simp only [List.all_cons, Bool.and_eq_true] at ho
    intro v hv
    rcases List.mem_cons.1 hv with rfl | hv
    · exact h1.one ho.1
    · exact ih h2 ho.2 v hv

/-- Cells written into a row. -/
theorem Sat.write (s : Sat E h w) {z r ty es : Nat} {cs : List AV} {full : Bool} (k : h.row z r = some (ty, es, cs, full)) {o : Nat} {e : Ent} (he : E z r = some e) (hs : e.sub ≤ o) {as : List AV} {us : List Value} (hl : o + as.length ≤ cs.length) (h1 : as.all AV.one = true) (hv : VRs E as us) :
    ∃ w', (storeCells ⟨e.b, o - e.sub, none⟩ us).run P w = .ok () w' ∧ Stp E h w E (h.upd z (.row ty es (spl cs o as) r full)) w' := by
  obtain ⟨e', cc, lo, hi, g1, g2, g3, g4, g5, g6, g7, g8, g9⟩ := s.row k
  rw [he] at g1; injection g1 with g1; subst g1
  have hul := hv.len
  have hcl : cc.toList.length = cc.size := by simp
  obtain ⟨w', hr, hb, hoth, hsz, h5, h6, h7⟩ := st_cells (P := P) us w cc.toList (o - e.sub) 0 (by simpa using g2) (by simpa using g8) (by omega) (hv.ones h1)
  refine ⟨w', hr, Stp.upd s (H.row_ok k) he rfl hb hoth hsz h5 h6 h7 ⟨_, lo, hi, rfl, g3, ?_, ?_, ?_, ?_, ?_, ?_⟩⟩
  · rw [List.size_toArray, spl_length _ _ _ (by omega)]; omega
  · rw [spl_length _ _ _ hl]; exact g5
  · rw [spl_length _ _ _ hl]; exact g6
  · intro hf; rw [spl_length _ _ _ hl]; exact g7 hf
  · intro i hi'; rw [List.size_toArray, spl_length _ _ _ (by omega)] at hi'; exact g8 i (by omega)
  · intro i a hi' ha
    rw [spl_get _ _ _ hl] at ha
    simp only [List.getElem?_toArray, Nat.add_zero]
    rw [spl_get _ _ _ (by omega)]
    split at ha
    · rename_i hlt
      rw [if_pos (by omega)]
      simpa using g9 i a hi' ha
    · rename_i hlt
      rw [if_neg (by omega)]
      split at ha
      · rename_i hlt2
        rw [if_pos (by omega)]
        obtain ⟨u, hu, hr'⟩ := hv.at _ ha
        refine ⟨u, ?_, hr'⟩
        rw [← hu]; congr 1; omega
      · rename_i hlt2
        rw [if_neg (by omega)]
        simpa using g9 i a hi' ha

def aStore (T : TT) (h : H) (t : TypeId) (x v : AV) : Option H := match x, T.at t with
  | .ptr z r o, some td => match h.row z r with
    | some (ty, es, cs, full) => match Nat.beq v.cells.length td.size, Nat.ble (o + v.cells.length) cs.length, v.cells.all AV.one with
      | true, true, true => some (h.upd z (.row ty es (spl cs o v.cells) r full))
      | _, _, _ => none
    | none => none
  | _, _ => none
include hT in
theorem aStore_ok (s : Sat E h w) {t : TypeId} {x v : AV} {ux uv : Value} {h' : H} (k : aStore T h t x v = some h') (hx : VR E x ux) (hv : VR E v uv) : ∃ w', (Instr.storeAt t ux uv).run P w = .ok () w' ∧ Stp E h w E h' w' := by
  unfold aStore at k
  split at k
  · rename_i z r o td htd
    split at k
    · rename_i ty es cs full hrow
      split at k
      · rename_i h1 h2 h3
        injection k with k; subst k
        have h1 := Nat.eq_of_beq_eq_true h1
        have h2 := Nat.le_of_ble_eq_true h2
        obtain ⟨e, he, hs, rfl⟩ := hx
        have hc := hv.cells
        obtain ⟨w', hr, hst⟩ := s.write (P := P) hrow he hs h2 h3 hc
        refine ⟨w', ?_, hst⟩
        have hsz : uv.cells.size = td.size := by
          have := hc.len
          simp at this; omega
        simp only [Instr.storeAt, Instr.sureAddr, Sem.run_bind, Sem.run_pure, Result.andThen_ok, storeVar, hT.size htd, hsz, ne_eq, not_true_eq_false, if_false]
        exact hr
      · cases k
    · cases k
  · cases k

/-! ### Maps -/
theorem ERs.append : ∀ {as bs : List (AV × AV × Nat)} {es fs : List MapEntry}, ERs E as es → ERs E bs fs → ERs E (as ++ bs) (es ++ fs)
  | [], bs, es, fs, h, k => by simp only [ERs] at h; subst h; exact k
  | (_, _, _) :: as, bs, es, fs, ⟨e, r, h1, h2, h3, h4, h5⟩, k => ⟨e, r ++ fs, by rw [h1]; rfl, h2, h3, h4, ERs.append h5 k⟩
theorem ERs.at : ∀ {as : List (AV × AV × Nat)} {es : List MapEntry}, ERs E as es → ∀ {i : Nat} {k v : AV} {b : Nat}, as[i]? = some (k, v, b) → ∃ e, es[i]? = some e ∧ VR E k e.key ∧ VR E v e.val ∧ e.born = b
  | [], es, h, i, k, v, b, hi => by simp at hi
  | (_, _, _) :: as, es, ⟨e, r, h1, h2, h3, h4, h5⟩, 0, k, v, b, hi => by
    simp at hi
    obtain ⟨rfl, rfl, rfl⟩ := hi
    exact ⟨e, by rw [h1]; rfl, h2, h3, h4⟩
  | (_, _, _) :: as, es, ⟨e, r, h1, h2, h3, h4, h5⟩, i + 1, k, v, b, hi => by
    obtain ⟨e', h6, h7⟩ := ERs.at h5 (i := i) (by simpa using hi)
    exact ⟨e', by rw [h1]; simpa using h6, h7⟩
theorem ERs.set : ∀ {as : List (AV × AV × Nat)} {es : List MapEntry}, ERs E as es → ∀ (i : Nat) {k v : AV} {b : Nat} {m : MapEntry}, VR E k m.key → VR E v m.val → m.born = b → ERs E (as.set i (k, v, b)) (es.set i m)
  | [], es, h, i, k, v, b, m, _, _, _ => by simp only [ERs] at h; subst h; simp [ERs]
  | (_, _, _) :: as, es, ⟨e, r, h1, h2, h3, h4, h5⟩, 0, k, v, b, m, g1, g2, g3 => ⟨m, r, by rw [h1]; rfl, g1, g2, g3, h5⟩
  | (_, _, _) :: as, es, ⟨e, r, h1, h2, h3, h4, h5⟩, i + 1, k, v, b, m, g1, g2, g3 => ⟨e, r.set i m, by rw [h1]; rfl, h2, h3, h4, ERs.set h5 i g1 g2 g3⟩
theorem ERs.erase : ∀ {as : List (AV × AV × Nat)} {es : List MapEntry}, ERs E as es → ∀ (i : Nat), ERs E (as.eraseIdx i) (es.eraseIdx i)
  | [], es, h, i => by simp only [ERs] at h; subst h; simp [ERs]
  | (_, _, _) :: as, es, ⟨e, r, h1, h2, h3, h4, h5⟩, 0 => by rw [h1]; exact h5
  | (_, _, _) :: as, es, ⟨e, r, h1, h2, h3, h4, h5⟩, i + 1 => ⟨e, r.eraseIdx i, by rw [h1]; rfl, h2, h3, h4, ERs.erase h5 i⟩
/-- Values that are sure to be the same bits when they are found equal: scalars, structs of scalars. -/
def bitsOk : AV → Bool
  | .bool _ => true
  | .int _ _ => true
  | .str _ => true
  | .agg cs => cs.all fun
    | .bool _ => true
    | .int _ _ => true
    | .str _ => true
    | _ => false
  | _ => false
def flatEq : AV → AV → Bool
  | .bool a, .bool b => a == b
  | .int j a, .int k b => kEq j k && eqI a b
  | .str a, .str b => eqL a b
  | _, _ => false
def flatsEq : List AV → List AV → Bool
  | [], [] => true
  | a :: x, b :: y => flatEq a b && flatsEq x y
  | _, _ => false
def bitsEq : AV → AV → Bool
  | .agg x, .agg y => flatsEq x y
  | x, y => flatEq x y
theorem flatEq_ok {x y : AV} {u v : Value} (k : flatEq x y = true) (hx : VR E x u) (hy : VR E y v) (n : Nat) : Instr.sameBits n u v = true := by
  unfold flatEq at k
  split at k
  · simp only [VR] at hx hy; subst hx; subst hy
    cases n <;> simpa [Instr.sameBits] using k
  · simp only [VR] at hx hy; subst hx; subst hy
    rw [Bool.and_eq_true, eqI_eq] at k
    have := kEq_eq k.1
    have := eq_of_beq k.2
    cases n <;> simp [Instr.sameBits, *]
  · simp only [VR] at hx hy
    obtain ⟨rfl, hx⟩ := hx
    obtain ⟨rfl, hy⟩ := hy
    rw [eqL_eq] at k
    subst k
    have hb : ∀ l : List Nat, (mkS l == mkS l) = true := fun l => by rw [beq_toListBytes]; exact beq_self_eq_true (mkS l).toList
    cases n <;> simpa [Instr.sameBits] using hb _
  · cases k
theorem flatsEq_ok : ∀ {xs ys : List AV} {us vs : List Value}, flatsEq xs ys = true → VRs E xs us → VRs E ys vs → ∀ n, us.length = vs.length ∧ (us.zip vs).all (fun (x, y) => Instr.sameBits n x y) = true
  | [], [], us, vs, k, hx, hy, n => by
    simp only [VRs] at hx hy; subst hx; subst hy
    simp
  | a :: xs, b :: ys, us, vs, k, ⟨u, us', h1, h2, h3⟩, ⟨v, vs', g1, g2, g3⟩, n => by
    simp only [flatsEq, Bool.and_eq_true] at k
    obtain ⟨i1, i2⟩ := flatsEq_ok k.2 h3 g3 n
    subst h1; subst g1
    refine ⟨by simp [i1], ?_⟩
    simp only [List.zip_cons_cons, List.all_cons, Bool.and_eq_true]
    exact ⟨flatEq_ok k.1 h2 g2 n, i2⟩
  | [], _ :: _, _, _, k, _, _, _ => by simp [flatsEq] at k
  | _ :: _, [], _, _, k, _, _, _ => by simp [flatsEq] at k
theorem bitsEq_ok {x y : AV} {u v : Value} (k : bitsEq x y = true) (hx : VR E x u) (hy : VR E y v) (n : Nat) : Instr.sameBits (n + 1) u v = true := by
  unfold bitsEq at k
  split at k
  · obtain ⟨us, rfl, hx⟩ := hx
    obtain ⟨vs, rfl, hy⟩ := hy
    obtain ⟨h1, h2⟩ := flatsEq_ok k hx hy n
    simp only [Instr.sameBits, List.size_toArray, h1, beq_self_eq_true, Bool.true_and, List.toList_toArray]
    exact h2
  · exact flatEq_ok k hx hy _
def H.mapz (h : H) (x : AV) : Option (Nat × List (AV × AV × Nat) × Nat) := match x with
  | .map z => match h.t.get z with
    | some (.mp es c) => some (z, es, c)
    | _ => none
  | _ => none
theorem H.mapz_ok {x : AV} {z c : Nat} {es : List (AV × AV × Nat)} (k : h.mapz x = some (z, es, c)) : x = .map z ∧ h.t.get z = some (.mp es c) := by
  unfold H.mapz at k
  split at k
  · split at k
    · rename_i hz
      simp only [Option.some.injEq, Prod.mk.injEq] at k
      obtain ⟨rfl, rfl, rfl⟩ := k
      exact ⟨rfl, hz⟩
    · cases k
  · cases k
/-- A map turns. -/
theorem Sat.setMap (s : Sat E h w) {z c c' : Nat} {es es' : List (AV × AV × Nat)} (hz : h.t.get z = some (.mp es c)) {e : Ent} (he : E z 0 = some e) {ms' : List MapEntry} (k : ERs E es' ms') :
    (setObj e.b (.map ms'.toArray c')).run P w = .ok () { w with heap := w.heap.setIfInBounds e.b (.map ms'.toArray c') } ∧ Stp E h w E (h.upd z (.mp es' c')) { w with heap := w.heap.setIfInBounds e.b (.map ms'.toArray c') } := by
  obtain ⟨e', ob, h1, h2, ms, rfl, h3⟩ := s.obj z _ hz
  simp only [OB.ver] at h1
  rw [he] at h1; injection h1 with h1; subst h1
  refine ⟨run_setMap h2 (fun _ _ _ => by simp), Stp.upd s hz he rfl (ob := .map ms'.toArray c') ?_ (fun k hk => ?_) (by simp) rfl rfl rfl ⟨ms', rfl, k⟩⟩
  · have : e.b < w.heap.size := (Array.getElem?_eq_some_iff.1 h2).1
    simp [this]
  · simp only [Array.getElem?_setIfInBounds]
    rw [if_neg (by omega)]
def aMapUpd (T : TT) (h : H) (t : TypeId) (x k v : AV) : Option H := match T.at t, h.mapz x with
  | some td, some (z, es, c) => match td.kd with
    | .map kt _ => match keyOk T kt k, T.at kt, findA T kt k es 0 with
      | true, some _, some (some (i, _)) => match es[i]? with
        | some (k0, _, b) => match bitsEq k0 k with
          | true => some (h.upd z (.mp (es.set i (k, v, b)) c))
          | false => none
        | none => none
      | true, some _, some none => some (h.upd z (.mp (es ++ [(k, v, c)]) (c + 1)))
      | _, _, _ => none
    | _ => none
  | _, _ => none
include hT in
theorem aMapUpd_ok (s : Sat E h w) {t : TypeId} {x k v : AV} {ux uk uv : Value} {h' : H} (hh : aMapUpd T h t x k v = some h') (hx : VR E x ux) (hk : VR E k uk) (hv : VR E v uv) : ∃ w', (Instr.mapUpdate t ux uk uv).run P w = .ok () w' ∧ Stp E h w E h' w' := by
  unfold aMapUpd at hh
  split at hh
  · rename_i td z es c htd hm
    obtain ⟨rfl, hz⟩ := H.mapz_ok hm
    obtain ⟨e, he, rfl⟩ := hx
    obtain ⟨e', ob, g1, g2, ms, rfl, g3⟩ := s.obj z _ hz
    simp only [OB.ver] at g1
    rw [he] at g1; injection g1 with g1; subst g1
    split at hh
    · rename_i kt et hkd
      have hmap := hT.map htd hkd
      split at hh
      · rename_i ktd i v0 hko hktd hf
        have hck := keyOk_ok (w := w) hT hko hk false
        obtain ⟨r', hr1, v'', rfl, _⟩ := findKey_ok (w := w) hT hktd hk hf g3
        split at hh
        · rename_i k0 v1 b hi
          split at hh
          · rename_i hbits
            injection hh with hh; subst hh
            obtain ⟨m, hm1, hm2, hm3, hm4⟩ := g3.at hi
            have hsb := bitsEq_ok hbits hm2 hk 9999
            have hset := g3.set i (k := k) (v := v) (b := b) (m := { m with key := uk, val := uv }) hk hv hm4
            obtain ⟨hr2, hst⟩ := s.setMap (P := P) (c' := c) hz he hset
            refine ⟨_, ?_, hst⟩
            have hmod : ms.toArray.modify i (fun e => { e with key := uk, val := uv }) = (ms.set i { m with key := uk, val := uv }).toArray := by
              apply Array.ext'
              simp only [Array.toList_modify, List.toList_toArray]
              apply List.ext_getElem?
              intro j
              rw [List.getElem?_modify, List.getElem?_set]
              by_cases hj : i = j
              · subst hj
                have := (List.getElem?_eq_some_iff.1 hm1).1
                simp [this, hm1]
                rw [List.getElem?_eq_getElem this] at hm1
                exact Option.some.inj hm1 ▸ rfl
              · simp [hj]
            have hkts : (Instr.keyThatStays (((ms.toArray[i]?).map (·.key)).getD uk) uk).run P w = .ok uk w := by
              simp only [Instr.keyThatStays, List.getElem?_toArray, hm1, Option.map_some, Option.getD_some, hsb, if_true, Sem.run_pure]
            simp only [Instr.mapUpdate, Sem.run_bind, run_underlying hmap, Result.andThen_ok, run_getMap g2, hck, hr1, hkts, hmod, hr2]
          · cases hh
        · cases hh
      · rename_i ktd hko hktd hf
        injection hh with hh; subst hh
        have hck := keyOk_ok (w := w) hT hko hk false
        obtain ⟨r', hr1, rfl⟩ := findKey_ok (w := w) hT hktd hk hf g3
        have hset := g3.append (bs := [(k, v, c)]) (fs := [MapEntry.mk uk uv c]) ⟨_, _, rfl, hk, hv, rfl, rfl⟩
        obtain ⟨hr2, hst⟩ := s.setMap (P := P) (c' := c + 1) hz he hset
        refine ⟨_, ?_, hst⟩
        have hpush : ms.toArray.push (MapEntry.mk uk uv c) = (ms ++ [MapEntry.mk uk uv c]).toArray := by simp
        simp only [Instr.mapUpdate, Sem.run_bind, run_underlying hmap, Result.andThen_ok, run_getMap g2, hck, hr1, hpush, hr2]
      · cases hh
    · cases hh
  · cases hh
def aDelete (T : TT) (h : H) (t : TypeId) (x k : AV) : Option H := match T.at t, h.mapz x with
  | some td, some (z, es, c) => match td.kd with
    | .map kt _ => match keyOk T kt k, T.at kt, findA T kt k es 0 with
      | true, some _, some (some (i, _)) => some (h.upd z (.mp (es.eraseIdx i) c))
      | true, some _, some none => some (h.upd z (.mp es c))
      | _, _, _ => none
    | _ => none
  | _, _ => none
include hT in
theorem aDelete_ok (s : Sat E h w) {t t2 ty : TypeId} {x k : AV} {ux uk : Value} {h' : H} (hh : aDelete T h t x k = some h') (hx : VR E x ux) (hk : VR E k uk) : ∃ w', (Builtin.delete_ #[t, t2] ty #[ux, uk]).run P w = .ok (.tuple #[]) w' ∧ Stp E h w E h' w' := by
  unfold aDelete at hh
  split at hh
  · rename_i td z es c htd hm
    obtain ⟨rfl, hz⟩ := H.mapz_ok hm
    obtain ⟨e, he, rfl⟩ := hx
    obtain ⟨e', ob, g1, g2, ms, rfl, g3⟩ := s.obj z _ hz
    simp only [OB.ver] at g1
    rw [he] at g1; injection g1 with g1; subst g1
    split at hh
    · rename_i kt et hkd
      have hmap := hT.map htd hkd
      split at hh
      · rename_i ktd i v0 hko hktd hf
        injection hh with hh; subst hh
        have hck := keyOk_ok (w := w) hT hko hk ms.toArray.isEmpty
        obtain ⟨r', hr1, v'', rfl, _⟩ := findKey_ok (w := w) hT hktd hk hf g3
        obtain ⟨hr2, hst⟩ := s.setMap (P := P) (c' := c) hz he (g3.erase i)
        refine ⟨_, ?_, hst⟩
        have her : ms.toArray.eraseIdxIfInBounds i = (ms.eraseIdx i).toArray := by
          rw [List.eraseIdxIfInBounds_toArray]
        simp only [Builtin.delete_, List.getElem?_toArray, List.getElem?_cons_zero, List.getElem?_cons_succ, Sem.run_bind, run_underlying hmap, Result.andThen_ok, run_getMap g2, hck, hr1, her, hr2, Sem.run_pure]
      · rename_i ktd hko hktd hf
        injection hh with hh; subst hh
        have hck := keyOk_ok (w := w) hT hko hk ms.toArray.isEmpty
        obtain ⟨r', hr1, rfl⟩ := findKey_ok (w := w) hT hktd hk hf g3
        obtain ⟨hr2, hst⟩ := s.setMap (P := P) (c' := c) hz he g3
        refine ⟨_, ?_, hst⟩
        simp only [Builtin.delete_, List.getElem?_toArray, List.getElem?_cons_zero, List.getElem?_cons_succ, Sem.run_bind, run_underlying hmap, Result.andThen_ok, run_getMap g2, hck, hr1, hr2, Sem.run_pure]
      · cases hh
    · cases hh
  · cases hh
end
end Go.Ev
