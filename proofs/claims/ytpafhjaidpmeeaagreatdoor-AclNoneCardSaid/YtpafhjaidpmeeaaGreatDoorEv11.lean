/- Words of this claim: the evaluator's copy, clear, and ranging over texts and over maps of one entry at most. -/
import Derived.Test.YtpafhjaidpmeeaaGreatDoorEv10
set_option linter.unusedVariables false
set_option linter.unusedSimpArgs false
namespace Go.Ev
open Go.RowKit

section
variable {P : Program} {T : TT} (hT : TOK P T) {E : Env} {h : H} {w : World}

def aCopy (T : TT) (h : H) (t : TypeId) (d x : AV) : Option (AV × H) := match T.at t with
  | none => none
  | some td => match td.kd with
    | .slice e => match T.at e with
      | none => none
      | some ed => match src h ed.size x with
        | none => none
        | some (n, as) => match d with
          | .slN => some (.int .i64 (.ofNat 0), h)
          | .sl z r o m _ es => match Nat.beq es ed.size, h.row z r with
            | true, some (ty, es', cs, full) => match Nat.ble (o + (Nat.min n m) * es) cs.length, as.all AV.one with
              | true, true => some (.int .i64 (.ofNat (Nat.min n m)), h.upd z (.row ty es' (spl cs o (as.take (Nat.min n m * es))) r full))
              | _, _ => none
            | _, _ => none
          | _ => none
    | _ => none
include hT in
theorem aCopy_ok (st : Sat E h w) {t tx ty : TypeId} {d x v : AV} {ud ux : Value} {h' : H} (k : aCopy T h t d x = some (v, h')) (hd : VR E d ud) (hx : VR E x ux) :
    ∃ z w', (Builtin.copy_ #[t, tx] ty #[ud, ux]).run P w = .ok z w' ∧ Stp E h w E h' w' ∧ VR E v z := by
  unfold aCopy at k
  split at k
  · cases k
  · rename_i td htd
    split at k
    · rename_i e hkd
      split at k
      · cases k
      · rename_i ed hed
        have hu := hT.slice htd hkd
        split at k
        · cases k
        · rename_i n as hsrc
          obtain ⟨hal, hlen, xs, hxs, hfc⟩ := src_ok (P := P) st hsrc hx
          split at k
          · simp only [Option.some.injEq, Prod.mk.injEq] at k
            obtain ⟨rfl, rfl⟩ := k
            simp only [VR] at hd; subst hd
            refine ⟨.int .i64 0, w, ?_, Stp.refl st, rfl⟩
            have h0 := hfc w 0 rfl (Nat.zero_le _)
            have hm : Nat.min n 0 = 0 := Nat.min_zero n
            simp only [Builtin.copy_, List.getElem?_toArray, List.getElem?_cons_zero, List.getElem?_cons_succ, Sem.run_bind, run_underlying hu, Result.andThen_ok, hlen, hT.size hed, hm, h0, Sem.run_pure, goInt]
            rfl
          · rename_i z r o m c es
            split at k
            · rename_i ty' es' cs full c0 hrow
              have c0 := Nat.eq_of_beq_eq_true c0
              subst c0
              split at k
              · rename_i b1 b2
                have b1 := Nat.le_of_ble_eq_true b1
                simp only [Option.some.injEq, Prod.mk.injEq] at k
                obtain ⟨rfl, rfl⟩ := k
                obtain ⟨en, kk, he, hsub, rfl, hnk, hpos, hesz, hcap⟩ := hd
                have hmn : Nat.min n m ≤ n := Nat.min_le_left _ _
                have h0 := hfc w (Nat.min n m) rfl hmn
                have hxl : (as.take (Nat.min n m * ed.size)).length = Nat.min n m * ed.size := by
                  have := Nat.mul_le_mul_right ed.size hmn
                  simp; omega
                have hones : (as.take (Nat.min n m * ed.size)).all AV.one = true := by
                  rw [List.all_eq_true] at b2 ⊢
                  exact fun a ha => b2 a (List.mem_of_mem_take ha)
                obtain ⟨w', hr, hst⟩ := st.write (P := P) hrow he hsub (as := as.take (Nat.min n m * ed.size)) (us := xs.take (Nat.min n m * ed.size)) (by rw [hxl]; exact b1) hones (hxs.take _)
                refine ⟨.int .i64 (Nat.min n m), w', ?_, hst, rfl⟩
                simp only [Builtin.copy_, List.getElem?_toArray, List.getElem?_cons_zero, List.getElem?_cons_succ, Sem.run_bind, run_underlying hu, Result.andThen_ok, hlen, hT.size hed, h0, Sem.run_pure, hr, goInt]
              · cases k
            · cases k
          · cases k
    · cases k

def aClear (T : TT) (h : H) (t : TypeId) (x : AV) : Option H := match T.at t with
  | none => none
  | some td => match td.kd with
    | .slice e => match T.at e with
      | none => none
      | some ed => match x with
        | .slN => some h
        | .slE => some h
        | .sl _ _ _ 0 _ _ => some h
        | .sl z r o (m + 1) _ es => match ed.zero, Nat.beq es ed.size, h.row z r with
          | some z0, true, some (ty, es', cs, full) => match Nat.ble (o + (m + 1) * es) cs.length, Nat.beq z0.cells.length ed.size, z0.cells.all AV.one with
            | true, true, true => some (h.upd z (.row ty es' (spl cs o (azeros z0.cells ((m + 1) * es))) r full))
            | _, _, _ => none
          | _, _, _ => none
        | _ => none
    | _ => none
include hT in
theorem aClear_ok (st : Sat E h w) {t ty : TypeId} {x : AV} {ux : Value} {h' : H} (k : aClear T h t x = some h') (hx : VR E x ux) : ∃ w', (Builtin.clear_ #[t] ty #[ux]).run P w = .ok (.tuple #[]) w' ∧ Stp E h w E h' w' := by
  unfold aClear at k
  split at k
  · cases k
  · rename_i td htd
    split at k
    · rename_i e hkd
      split at k
      · cases k
      · rename_i ed hed
        have hu := hT.slice htd hkd
        split at k
        · injection k with k; subst k
          simp only [VR] at hx; subst hx
          refine ⟨w, ?_, Stp.refl st⟩
          simp only [Builtin.clear_, List.getElem?_toArray, List.getElem?_cons_zero, List.getElem?_cons_succ, Sem.run_bind, run_underlying hu, Result.andThen_ok, Sem.run_pure]
        · injection k with k; subst k
          obtain ⟨a, kk, rfl⟩ := hx
          refine ⟨w, ?_, Stp.refl st⟩
          simp only [Builtin.clear_, List.getElem?_toArray, List.getElem?_cons_zero, List.getElem?_cons_succ, Sem.run_bind, run_underlying hu, Result.andThen_ok, Sem.run_pure]
        · injection k with k; subst k
          obtain ⟨en, kk, he, hsub, rfl, hnk, hpos, hesz, hcap⟩ := hx
          refine ⟨w, ?_, Stp.refl st⟩
          simp only [Builtin.clear_, List.getElem?_toArray, List.getElem?_cons_zero, List.getElem?_cons_succ, Sem.run_bind, run_underlying hu, Result.andThen_ok, Sem.run_pure]
        · rename_i z r o m c es
          split at k
          · rename_i z0 ty' es' cs full hz0 c0 hrow
            have c0 := Nat.eq_of_beq_eq_true c0
            subst c0
            split at k
            · rename_i b1 b2 b3
              have b1 := Nat.le_of_ble_eq_true b1
              have b2 := Nat.eq_of_beq_eq_true b2
              injection k with k; subst k
              obtain ⟨en, kk, he, hsub, rfl, hnk, hpos, hesz, hcap⟩ := hx
              obtain ⟨vz, hzr, hzv⟩ := hT.zero hed hz0 w
              have hsz : 0 < ed.size := by omega
              have hvz : vz.cells.size = ed.size := by
                have := (hzv E).cells.len
                simp at this; omega
              have hz1 := azeros_ok (E := E) hzv (by omega) ((m + 1) * ed.size)
              have hlen : (azeros z0.cells ((m + 1) * ed.size)).length = (m + 1) * ed.size := by simp [azeros]
              have hones : (azeros z0.cells ((m + 1) * ed.size)).all AV.one = true := by
                rw [List.all_eq_true] at b3 ⊢
                intro a ha
                unfold azeros at ha
                obtain ⟨j, _, hj⟩ := List.mem_map.1 ha
                have hlt : Nat.mod j z0.cells.length < z0.cells.length := Nat.mod_lt _ (by omega)
                rw [List.getElem?_eq_getElem hlt] at hj
                simp only at hj
                rw [← hj]
                exact b3 _ (List.getElem_mem _)
              obtain ⟨w', hr, hst⟩ := st.write (P := P) hrow he hsub (by rw [hlen]; exact b1) hones hz1
              refine ⟨w', ?_, hst⟩
              have hzc : (Builtin.zeroCells vz.cells (m + 1)).toList = ((Array.range ((m + 1) * ed.size)).map (vz.cells[· % vz.cells.size]!)).toList := by
                simp only [Builtin.zeroCells, hvz]
              simp only [Builtin.clear_, List.getElem?_toArray, List.getElem?_cons_zero, List.getElem?_cons_succ, Sem.run_bind, run_underlying hu, Result.andThen_ok, hzr, hzc, hr, Sem.run_pure]
            · cases k
          · cases k
        · cases k
    · cases k

/-! ### Ranging -/
def aRange (T : TT) (h : H) (t : TypeId) (x : AV) : Option (AV × OB) := match T.at t, x with
  | some td, .str s => match td.kd with
    | .str => some (.ptr h.nx 0 0, .sit s 0)
    | _ => none
  | some td, .mapN => match td.kd with
    | .map _ _ => some (.ptr h.nx 0 0, .mit none 0 [] 0)
    | _ => none
  | some td, .map z => match td.kd, h.t.get z with
    | .map _ _, some (.mp _ c) => some (.ptr h.nx 0 0, .mit (some z) c [] c)
    | _, _ => none
  | _, _ => none
include hT in
theorem aRange_ok (st : Sat E h w) {t : TypeId} {x v : AV} {o : OB} {u : Value} (k : aRange T h t x = some (v, o)) (hx : VR E x u) : Lay P E w (Instr.range t u) h.nx v o := by
  unfold aRange at k
  split at k
  · rename_i td s htd
    split at k
    · rename_i hk
      simp only [Option.some.injEq, Prod.mk.injEq] at k
      obtain ⟨rfl, rfl⟩ := k
      simp only [VR] at hx
      obtain ⟨rfl, hs⟩ := hx
      have hu := hT.str htd hk
      exact ⟨.pointer (some ⟨w.heap.size, 0, none⟩), w.alloc (.stringIter (mkS s) 0), ⟨w.heap.size, 0, 0, 0⟩, .stringIter (mkS s) 0, by simp [Instr.range, run_underlying hu], rfl, rfl, rfl, rfl, rfl, rfl, fun E' hle he => ⟨⟨rfl, hs⟩, _, he, Nat.le_refl _, rfl⟩⟩
    · cases k
  · rename_i td htd
    split at k
    · rename_i kt et hk
      simp only [Option.some.injEq, Prod.mk.injEq] at k
      obtain ⟨rfl, rfl⟩ := k
      simp only [VR] at hx; subst hx
      have hu := hT.map htd hk
      exact ⟨.pointer (some ⟨w.heap.size, 0, none⟩), w.alloc (.mapIter none 0 #[] 0), ⟨w.heap.size, 0, 0, 0⟩, .mapIter none 0 #[] 0, by simp [Instr.range, run_underlying hu], rfl, rfl, rfl, rfl, rfl, rfl, fun E' hle he => ⟨⟨rfl, fun z hz => by cases hz⟩, _, he, Nat.le_refl _, rfl⟩⟩
    · cases k
  · rename_i td z htd
    split at k
    · rename_i kt et es c hk hz
      simp only [Option.some.injEq, Prod.mk.injEq] at k
      obtain ⟨rfl, rfl⟩ := k
      obtain ⟨e, he, rfl⟩ := hx
      obtain ⟨e', ob, g1, g2, ms, rfl, g3⟩ := st.obj z _ hz
      simp only [OB.ver] at g1
      rw [he] at g1; injection g1 with g1; subst g1
      have hu := hT.map htd hk
      refine ⟨.pointer (some ⟨w.heap.size, 0, none⟩), w.alloc (.mapIter (some e.b) c #[] c), ⟨w.heap.size, 0, 0, 0⟩, .mapIter (some e.b) c #[] c, ?_, rfl, rfl, rfl, rfl, rfl, rfl, fun E' hle he' => ⟨⟨by simp [hle _ _ _ he], fun y hy => by injection hy with hy; subst hy; rw [hle _ _ _ he]; rfl⟩, _, he', Nat.le_refl _, rfl⟩⟩
      simp [Instr.range, run_underlying hu, run_getMap g2]
    · cases k
  · cases k

def adec (s : List Nat) (pos : Nat) : Nat × Nat := match s[pos]? with
  | some b => match Nat.blt b 128 with
    | true => (b, 1)
    | false => Utf8.decode (mkS s) pos
  | none => Utf8.decode (mkS s) pos
theorem adec_eq {s : List Nat} (hs : ∀ x ∈ s, x < 256) (pos : Nat) : adec s pos = Utf8.decode (mkS s) pos := by
  unfold adec
  split
  · rename_i b hb
    split
    · rename_i hlt
      rw [blt_dec] at hlt
      have hlt : b < 128 := by simpa using hlt
      have hp := (List.getElem?_eq_some_iff.1 hb)
      obtain ⟨hp, hb'⟩ := hp
      have hg : ((mkS s).get! pos).toNat = b := by
        have : (mkS s).get! pos = UInt8.ofNat b := by
          simp only [mkS, ByteArray.get!]
          simp [hp, hb']
        rw [this]
        simp [UInt8.toNat_ofNat']; omega
      unfold Utf8.decode
      simp only [Nat.add_zero, hg]
      rw [if_pos (by omega)]
    · rfl
  · rfl
/-- The one candidate of a map's next step, if there is but one: an entry, or none. -/
def cand (es : List (AV × AV × Nat)) (since : Nat) (seen : List Nat) : Option (Option (AV × AV × Nat)) :=
  match es.filter (fun e => !seen.any (Nat.beq e.2.2)) with
  | [] => some none
  | [e] => match Nat.blt e.2.2 since with
    | true => some (some e)
    | false => none
  | _ => none
def aNext (h : H) (x : AV) (str : Bool) : Option (AV × H) := match x with
  | .ptr z 0 0 => match h.t.get z, str with
    | some (.sit s pos), true => match Nat.blt pos s.length with
      | true => match adec s pos with
        | (c, n) => some (.tup [.bool true, .int .i64 (.ofNat pos), .int .i32 (.ofNat c)], h.upd z (.sit s (pos + n)))
      | false => some (.tup [.bool false], h)
    | some (.mit none _ _ _), false => some (.tup [.bool false], h)
    | some (.mit (some m) since seen st), false => match h.t.get m with
      | some (.mp es c) => match (seen.isEmpty || es.isEmpty || !es.all fun e => Nat.ble st e.2.2), cand es since seen with
        | true, some none => some (.tup [.bool false], h)
        | true, some (some (k, v, b)) => some (.tup [.bool true, k, v], h.upd z (.mit (some m) since (seen ++ [b]) c))
        | _, _ => none
      | _ => none
    | _, _ => none
  | _ => none
theorem ERs.filter {p : Nat → Bool} : ∀ {as : List (AV × AV × Nat)} {es : List MapEntry}, ERs E as es → ERs E (as.filter fun e => p e.2.2) (es.filter fun e => p e.born)
  | [], es, h => by simp only [ERs] at h; subst h; simp [ERs]
  | (_, _, b) :: as, es, ⟨e, r, h1, h2, h3, h4, h5⟩ => by
    subst h1
    simp only [List.filter_cons, h4]
    split
    · exact ⟨e, _, rfl, h2, h3, h4, ERs.filter h5⟩
    · exact ERs.filter h5
theorem ERs.all {p : Nat → Bool} : ∀ {as : List (AV × AV × Nat)} {es : List MapEntry}, ERs E as es → as.all (fun e => p e.2.2) = es.all (fun e => p e.born)
  | [], es, h => by simp only [ERs] at h; subst h; rfl
  | (_, _, b) :: as, es, ⟨e, r, h1, h2, h3, h4, h5⟩ => by
    subst h1
    simp only [List.all_cons, h4, ERs.all h5]
theorem guard_ok {es : List (AV × AV × Nat)} {ms : List MapEntry} (k : ERs E es ms) {seen : List Nat} {st : Nat} (hg : (seen.isEmpty || es.isEmpty || !es.all fun e => Nat.ble st e.2.2) = true) :
    (!seen.toArray.isEmpty && !ms.toArray.isEmpty && ms.toArray.all fun e => decide (e.born ≥ st)) = false := by
  have h1 := k.all (p := fun b => Nat.ble st b)
  have h2 := k.len
  rw [h1] at hg
  have h3 : (ms.all fun e => Nat.ble st e.born) = ms.toArray.all fun e => decide (e.born ≥ st) := by
    simp only [List.all_toArray]
    congr 1
    funext e
    rw [Bool.eq_iff_iff, Nat.ble_eq, decide_eq_true_eq]
  rw [h3] at hg
  simp only [Bool.or_eq_true, Bool.not_eq_true'] at hg
  rcases hg with (hg | hg) | hg
  · have : seen.toArray.isEmpty = true := by simpa using hg
    simp [this]
  · have h4 : es = [] := by simpa using hg
    subst h4
    have : ms.toArray.isEmpty = true := by simpa using h2
    simp [this]
  · rw [hg, Bool.and_false]
theorem contains_any (seen : List Nat) (b : Nat) : seen.toArray.contains b = seen.any (Nat.beq b) := by
  rw [Bool.eq_iff_iff]
  simp [List.any_eq_true, Nat.beq_eq]
theorem ERs.nil_of {es : List MapEntry} (k : ERs E [] es) : es = [] := by simpa only [ERs] using k
theorem aNext_ok (st : Sat E h w) {x v : AV} {b : Bool} {u : Value} {h' : H} {ty : TypeId} (k : aNext h x b = some (v, h')) (hx : VR E x u) : ∃ z w', (Instr.next u b ty).run P w = .ok z w' ∧ Stp E h w E h' w' ∧ VR E v z := by
  unfold aNext at k
  split at k
  · rename_i z
    obtain ⟨e, he, hs, rfl⟩ := hx
    have hs0 : (0 : Nat) - e.sub = 0 := by omega
    simp only [hs0]
    split at k
    · rename_i s pos hz
      obtain ⟨e', ob, g1, g2, rfl, g3⟩ := st.obj z _ hz
      simp only [OB.ver] at g1
      rw [he] at g1; injection g1 with g1; subst g1
      have hget : (getObj e.b).run P w = .ok (.stringIter (mkS s) pos) w := by simp [getObj, Sem.run, g2]
      have hsz := mkS_size s
      split at k
      · rename_i hlt
        rw [blt_dec] at hlt
        have hlt : pos < s.length := by simpa using hlt
        split at k
        rename_i c n hdec
        simp only [Option.some.injEq, Prod.mk.injEq] at k
        obtain ⟨rfl, rfl⟩ := k
        rw [adec_eq g3] at hdec
        have hset : (setObj e.b (.stringIter (mkS s) (pos + n))).run P w = .ok () { w with heap := w.heap.setIfInBounds e.b (.stringIter (mkS s) (pos + n)) } := run_setMap g2 (fun _ _ _ => by simp)
        have hst : Stp E h w E (h.upd z (.sit s (pos + n))) { w with heap := w.heap.setIfInBounds e.b (.stringIter (mkS s) (pos + n)) } := Stp.upd st hz he rfl (ob := .stringIter (mkS s) (pos + n)) (by
          have : e.b < w.heap.size := (Array.getElem?_eq_some_iff.1 g2).1
          simp [this]) (fun k hk => by simp only [Array.getElem?_setIfInBounds]; rw [if_neg (by omega)]) (by simp) rfl rfl rfl ⟨rfl, g3⟩
        refine ⟨.tuple #[.bool true, goInt pos, .int .i32 c], _, ?_, hst, [_, _, _], rfl, _, _, rfl, rfl, _, _, rfl, rfl, _, _, rfl, rfl, rfl⟩
        simp only [Instr.next, Sem.run_bind, hget, Result.andThen_ok, hsz, if_pos hlt, hdec, hset, Sem.run_pure]
      · rename_i hlt
        rw [blt_dec] at hlt
        have hlt : ¬ pos < s.length := by simpa using hlt
        simp only [Option.some.injEq, Prod.mk.injEq] at k
        obtain ⟨rfl, rfl⟩ := k
        refine ⟨.tuple #[.bool false], w, ?_, Stp.refl st, [_], rfl, _, _, rfl, rfl, rfl⟩
        simp only [Instr.next, Sem.run_bind, hget, Result.andThen_ok, hsz, if_neg hlt, Sem.run_pure]
    · rename_i q1 q2 q3 hz
      obtain ⟨e', ob, g1, g2, rfl, g3⟩ := st.obj z _ hz
      simp only [OB.ver] at g1
      rw [he] at g1; injection g1 with g1; subst g1
      have hget : (getObj e.b).run P w = .ok (.mapIter none q1 q2.toArray q3) w := by simp [getObj, Sem.run, g2]
      simp only [Option.some.injEq, Prod.mk.injEq] at k
      obtain ⟨rfl, rfl⟩ := k
      refine ⟨.tuple #[.bool false], w, ?_, Stp.refl st, [_], rfl, _, _, rfl, rfl, rfl⟩
      simp only [Instr.next, Sem.run_bind, hget, Result.andThen_ok, Sem.run_pure]
    · rename_i m since seen stp hz
      obtain ⟨e', ob, g1, g2, rfl, g3⟩ := st.obj z _ hz
      simp only [OB.ver] at g1
      rw [he] at g1; injection g1 with g1; subst g1
      split at k
      · rename_i es c hm
        obtain ⟨em, obm, j1, j2, ms, rfl, j3⟩ := st.obj m _ hm
        simp only [OB.ver] at j1
        simp only [j1, Option.map_some] at g2
        have hget : (getObj e.b).run P w = .ok (.mapIter (some em.b) since seen.toArray stp) w := by simp [getObj, Sem.run, g2]
        have hgm := run_getMap (P := P) j2
        split at k
        · rename_i hgd hc
          simp only [Option.some.injEq, Prod.mk.injEq] at k
          obtain ⟨rfl, rfl⟩ := k
          have hl := j3.filter (p := fun b => !seen.any (Nat.beq b))
          have hg := guard_ok j3 hgd
          unfold cand at hc
          split at hc
          · rename_i hf
            rw [hf] at hl
            have hl := hl.nil_of
            have hl' : ms.toArray.filter (fun e => !seen.toArray.contains e.born) = #[] := by
              simp only [contains_any, List.filter_toArray, hl]
            refine ⟨.tuple #[.bool false], w, ?_, Stp.refl st, [_], rfl, _, _, rfl, rfl, rfl⟩
            simp only [Instr.next, Sem.run_bind, hget, Result.andThen_ok, hgm, hg, Bool.false_eq_true, if_false, hl']
            simp [Question.forced]
          · split at hc <;> cases hc
          · cases hc
        · rename_i kk vv bb hgd hc
          simp only [Option.some.injEq, Prod.mk.injEq] at k
          obtain ⟨rfl, rfl⟩ := k
          have hl := j3.filter (p := fun b => !seen.any (Nat.beq b))
          have hg := guard_ok j3 hgd
          unfold cand at hc
          split at hc
          · cases hc
          · rename_i en hf
            split at hc
            · rename_i hlt
              simp only [Option.some.injEq] at hc
              subst hc
              rw [hf] at hl
              obtain ⟨en', r', hl1, hl2, hl3, hl4, hl5⟩ := hl
              have := hl5.nil_of
              subst this
              rw [blt_dec] at hlt
              have hlt : bb < since := by simpa using hlt
              have hl' : ms.toArray.filter (fun e => !seen.toArray.contains e.born) = #[en'] := by
                simp only [contains_any, List.filter_toArray, hl1]
              have hset : (setObj e.b (.mapIter (some em.b) since (seen ++ [bb]).toArray c)).run P w = .ok () { w with heap := w.heap.setIfInBounds e.b (.mapIter (some em.b) since (seen ++ [bb]).toArray c) } := run_setMap g2 (fun _ _ _ => by simp)
              have hst : Stp E h w E (h.upd z (.mit (some m) since (seen ++ [bb]) c)) { w with heap := w.heap.setIfInBounds e.b (.mapIter (some em.b) since (seen ++ [bb]).toArray c) } := Stp.upd st hz he rfl (ob := .mapIter (some em.b) since (seen ++ [bb]).toArray c) (by
                have : e.b < w.heap.size := (Array.getElem?_eq_some_iff.1 g2).1
                simp [this]) (fun k hk => by simp only [Array.getElem?_setIfInBounds]; rw [if_neg (by omega)]) (by simp) rfl rfl rfl ⟨by simp [j1], fun y hy => by injection hy with hy; subst hy; rw [j1]; rfl⟩
              refine ⟨.tuple #[.bool true, en'.key, en'.val], _, ?_, hst, [_, _, _], rfl, _, _, rfl, rfl, _, _, rfl, hl2, _, _, rfl, hl3, rfl⟩
              have hpush : seen.toArray.push en'.born = (seen ++ [bb]).toArray := by rw [hl4]; simp
              have ho : #[en'].filter (fun e => decide (e.born < since)) = #[en'] := by simp [hl4, hlt]
              have hn : #[en'].filter (fun e => decide (e.born ≥ since)) = #[] := by simp [hl4, hlt]
              simp only [Instr.next, Sem.run_bind, hget, Result.andThen_ok, hgm, hg, Bool.false_eq_true, if_false, hl', ho, hn]
              simp only [run_choose, Question.forced]
              simp [hpush, hl4, hset]
            · cases hc
          · cases hc
        · cases k
      · cases k
    · cases k
  · cases k
end
end Go.Ev
