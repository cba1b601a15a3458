/- Words of this claim: the evaluator's append, copy and clear. -/
import Derived.Test.YtpafhjaidpmeeaaGreatDoorEv9
set_option linter.unusedVariables false
set_option linter.unusedSimpArgs false
namespace Go.Ev
open Go.RowKit

/-- What is appended or copied: how many elements, their cells. -/
def src (h : H) (size : Nat) (x : AV) : Option (Nat × List AV) := match x with
  | .slN => some (0, [])
  | .slE => some (0, [])
  | .sl z r o n _ _ => match h.row z r with
    | some (_, _, cs, _) => match subAt cs o (n * size) with
      | some as => some (n, as)
      | none => none
    | none => none
  | .str s => match Nat.beq size 1 with
    | true => some (s.length, s.map fun b => .int .u8 (.ofNat b))
    | false => none
  | _ => none
/-- So many of them. -/
def srcN (h : H) (size : Nat) (x : AV) (m : Nat) : Option (List AV) := match src h size x with
  | some (n, as) => match Nat.ble m n with
    | true => some (as.take (m * size))
    | false => none
  | none => none

section
variable {P : Program} {T : TT} (hT : TOK P T) {E : Env} {h : H} {w : World}

theorem src_ok (s : Sat E h w) {size n : Nat} {x : AV} {as : List AV} {u : Value} (k : src h size x = some (n, as)) (hx : VR E x u) :
    as.length = n * size ∧ (∀ w2, (Builtin.lenOf u).run P w2 = .ok n w2) ∧ ∃ us, VRs E as us ∧ ∀ w2 m, w2.heap = w.heap → m ≤ n → (Builtin.firstCells size m u).run P w2 = .ok (us.take (m * size)).toArray w2 := by
  unfold src at k
  split at k
  · simp only [Option.some.injEq, Prod.mk.injEq] at k
    obtain ⟨rfl, rfl⟩ := k
    simp only [VR] at hx; subst hx
    exact ⟨by simp, fun _ => rfl, [], rfl, fun w2 m _ hm => by simp [Builtin.firstCells]⟩
  · simp only [Option.some.injEq, Prod.mk.injEq] at k
    obtain ⟨rfl, rfl⟩ := k
    obtain ⟨a, c, rfl⟩ := hx
    refine ⟨by simp, fun _ => rfl, [], rfl, fun w2 m _ hm => ?_⟩
    have : m = 0 := by omega
    subst this
    simp [Builtin.firstCells, loadCells, loadCellsFrom]
  · rename_i z r o n' c es
    split at k
    · rename_i ty es' cs full hrow
      split at k
      · rename_i as' has
        simp only [Option.some.injEq, Prod.mk.injEq] at k
        obtain ⟨rfl, rfl⟩ := k
        obtain ⟨e, kk, he, hs, rfl, _⟩ := hx
        obtain ⟨us, h1, h2⟩ := s.part hrow has he hs
        have hl : us.length = n' * size := by rw [h1.len]; exact (subAt_ok has).2.2
        refine ⟨(subAt_ok has).2.2, fun _ => rfl, us, h1, fun w2 m hw hm => ?_⟩
        have hm' : m * size ≤ n' * size := Nat.mul_le_mul_right _ hm
        refine run_firstCells_some (w := w2) size m _ n' kk (us.take (m * size)) (by simp; omega) fun j v hj => ?_
        rw [List.getElem?_take] at hj
        split at hj
        · have := h2 j v hj
          have hc : ∀ a, w2.cell? a = w.cell? a := fun a => by simp only [World.cell?, hw]
          rw [hc]; exact this
        · cases hj
      · cases k
    · cases k
  · rename_i b
    split at k
    · rename_i hsz
      have hsz := Nat.eq_of_beq_eq_true hsz
      subst hsz
      simp only [Option.some.injEq, Prod.mk.injEq] at k
      obtain ⟨rfl, rfl⟩ := k
      simp only [VR] at hx
      obtain ⟨rfl, hb⟩ := hx
      refine ⟨by simp, fun _ => by simp [Builtin.lenOf, mkS_size], b.map (fun (m : Nat) => Value.int .u8 (m : Int)), VRs.of_fn (by simp) fun i a hi => ?_, fun w2 m _ hm => ?_⟩
      · rw [List.getElem?_map, Option.map_eq_some_iff] at hi
        obtain ⟨y, hy, rfl⟩ := hi
        exact ⟨.int .u8 (y : Int), by rw [List.getElem?_map, hy]; rfl, rfl⟩
      · simp only [Builtin.firstCells, Sem.run_pure, mkS_extract]
        congr 1
        simp only [mkS, List.drop_zero, Nat.sub_zero, Nat.mul_one]
        apply Array.ext'
        simp only [Array.toList_map, List.toList_toArray, List.map_map, List.map_take]
        congr 1
        apply List.map_congr_left
        intro y hy
        have := hb y hy
        simp [UInt8.toNat_ofNat', Nat.mod_eq_of_lt this]
    · cases k
  · cases k

/-- What may be appended: a slice, a text. -/
def srcT (T : TT) (t : TypeId) : Bool := match T.at t with
  | some td => match td.kd with
    | .slice _ => true
    | .str => true
    | _ => false
  | none => false
theorem srcT_ok (hT : TOK P T) {t : TypeId} (k : srcT T t = true) : (∃ e, P.underlying t = some (.slice e)) ∨ P.underlying t = some .string := by
  unfold srcT at k
  split at k
  · rename_i td htd
    split at k
    · rename_i e hk; exact .inl ⟨e, hT.slice htd hk⟩
    · rename_i hk; exact .inr (hT.str htd hk)
    · cases k
  · cases k
theorem zeroCells_size (z : Array Value) (n : Nat) : (Builtin.zeroCells z n).size = n * z.size := by simp [Builtin.zeroCells]

/-- append, where there is room. -/
theorem run_app_in {t tx e ty : TypeId} {td ed : TD} (ht : T.at t = some td) (hk : td.kd = .slice e) (htx : srcT T tx = true) (hed : T.at e = some ed) {base : Option Addr} {sLen sCap n : Nat} {u : Value} {us : List Value} (hT : TOK P T)
    (hlen : (Builtin.lenOf u).run P w = .ok n w) (hcs : (Builtin.firstCells ed.size n u).run P w = .ok us.toArray w) (hroom : sLen + n ≤ sCap) {w' : World}
    (hst : match base with
      | some a => (storeCells (a.add (sLen * ed.size)) us).run P w = .ok () w'
      | none => w' = w) :
    (Builtin.append_ #[t, tx] ty #[.slice base sLen sCap, u]).run P w = .ok (.slice base (sLen + n) sCap) w' := by
  have hu := hT.slice ht hk
  have hux := srcT_ok hT htx
  rcases hux with ⟨e', hux⟩ | hux
  all_goals
    simp only [Builtin.append_, List.getElem?_toArray, List.getElem?_cons_zero, List.getElem?_cons_succ, Sem.run_bind, run_underlying hu, Result.andThen_ok, hT.size hed, run_underlying hux, Sem.run_pure, Bool.false_eq_true, if_false, hlen, Bool.not_false, if_true, if_pos hroom, hcs]
    cases base with
    | none => simp only at hst; subst hst; rfl
    | some a => simp only [Sem.run_bind, hst, Result.andThen_ok, Sem.run_pure]
/-- append, where there is none. -/
theorem run_app_new {t tx e ty : TypeId} {td ed : TD} (ht : T.at t = some td) (hk : td.kd = .slice e) (htx : srcT T tx = true) (hed : T.at e = some ed) {z : AV} (hz : ed.zero = some z) (hzl : z.cells.length = ed.size) {base : Option Addr} {sLen sCap n : Nat} {u : Value} {us os : List Value} (hT : TOK P T)
    (hlen : (Builtin.lenOf u).run P w = .ok n w) (hcs : ∀ w2, w2.heap = w.heap → (Builtin.firstCells ed.size n u).run P w2 = .ok us.toArray w2) (hos : ∀ w2, w2.heap = w.heap → (Builtin.firstCells ed.size sLen (.slice base sLen sCap)).run P w2 = .ok os.toArray w2) (hroom : sCap < sLen + n)
    (hsmall : sLen + n ≤ 16777216) (hby : (sLen + n) * ed.bytes ≤ 1073741824) (hol : os.length = sLen * ed.size) (hul : us.length = n * ed.size) :
    ∃ (c : Nat) (w' : World) (cc : List Value), sLen + n ≤ c ∧ (Builtin.append_ #[t, tx] ty #[.slice base sLen sCap, u]).run P w = .ok (.slice (some ⟨w.heap.size, 0, none⟩) (sLen + n) c) w' ∧ w'.heap = w.heap.push (.cells (os ++ us ++ cc).toArray e) ∧ w'.os = w.os ∧ w'.tape = w.tape ∧ w'.output = w.output ∧
      (os ++ us ++ cc).length = c * ed.size := by
  have hu := hT.slice ht hk
  have hux := srcT_ok hT htx
  obtain ⟨i, hi, hib, _⟩ := hT.info hed w
  have hinfo : ∀ w2, (typeInfo e).run P w2 = .ok i w2 := fun w2 => by
    obtain ⟨i', hi', _⟩ := hT.info hed w2
    obtain ⟨j, d, hj, _⟩ := hT.get hed
    simp only [typeInfo, Sem.run_bind, run_program, Result.andThen_ok] at hi hi' ⊢
    simp only [show P.info? e = some j from hj, Sem.run_pure, Result.ok.injEq] at hi ⊢
    exact ⟨hi.1, trivial⟩
  have hg : Builtin.nextslicecap (sLen + n) sCap * i.bytes ≤ 281474976710656 := growslice_fits hroom (by rw [hib]; omega)
  let c := (Question.appendCap (sLen + n) sCap e).cut (w.tape w.drawn (.appendCap (sLen + n) sCap e))
  have hc : sLen + n ≤ c := by
    show sLen + n ≤ (sLen + n) + _
    omega
  obtain ⟨vz, hzr, hzv⟩ := hT.zero hed hz { w with drawn := w.drawn + 1 }
  have hvz : vz.cells.size = ed.size := by
    have := (hzv fun _ _ => none).cells.len
    simp at this; omega
  refine ⟨c, { { w with drawn := w.drawn + 1 } with heap := w.heap.push (.cells (os ++ us ++ (Builtin.zeroCells vz.cells (c - (sLen + n))).toList).toArray e) }, (Builtin.zeroCells vz.cells (c - (sLen + n))).toList, hc, ?_, rfl, rfl, rfl, rfl, ?_⟩
  · have hneed : ¬ sLen + n ≤ sCap := by omega
    have hif1 : ¬ (((sLen + n : Nat) : Int) > IntKind.i64.max ∧ ((false = true) ∨ i.bytes = 0)) := by
      simp only [IntKind.max, IntKind.signed, IntKind.bits]
      rintro ⟨h1, _⟩
      simp at h1
      omega
    have hif2 : ¬ (Builtin.nextslicecap (sLen + n) sCap * i.bytes > 2 ^ 48) := by omega
    have hfz : (Question.appendCap (sLen + n) sCap e).forced = false := rfl
    rcases hux with ⟨e', hux⟩ | hux
    all_goals
      simp only [Builtin.append_, List.getElem?_toArray, List.getElem?_cons_zero, List.getElem?_cons_succ, Sem.run_bind, run_underlying hu, Result.andThen_ok, hT.size hed, run_underlying hux, Sem.run_pure, Bool.false_eq_true, if_false, hlen, Bool.not_false, if_true, if_neg hneed, hinfo, Sem.run_ite, if_neg hif2, run_choose, hfz, run_askRoom,
        hos { w with drawn := w.drawn + 1 } rfl, hcs { w with drawn := w.drawn + 1 } rfl, hzr, newRow, run_newObj]
      rw [if_neg (by simpa using hif1)]
      simp [c]
      congr 2
      apply Array.ext'
      simp
  · simp only [List.length_append, Array.length_toList, zeroCells_size, hvz, hol, hul]
    rw [Nat.sub_mul]
    have := Nat.mul_le_mul_right ed.size hc
    rw [Nat.add_mul] at this ⊢
    omega

/-- A new row out of cells, with room behind. -/
theorem OR.fresh {b ty es c r : Nat} {cs : List AV} {us cc : List Value} {sub : Nat} {pre : List AV} (hp : pre.length = sub) (k : VRs E cs us) (hl : (us ++ cc).length = c * es) : OR E ⟨b, sub, sub + c * es, es⟩ (.row ty es (pre ++ cs) r false) (.cells (us ++ cc).toArray ty) := by
  have hul := k.len
  simp only [List.length_append] at hl
  refine ⟨(us ++ cc).toArray, 0, 0, rfl, rfl, by simp only [List.size_toArray, List.length_append]; omega, by simp only [List.length_append]; omega, by simp only [List.length_append]; omega, (fun h => nomatch h), fun o ho => (by omega), fun i a hi ha => ?_⟩
  simp only at hi
  rw [List.getElem?_append_right (by omega)] at ha
  obtain ⟨u, hu, hr⟩ := k.at _ ha
  refine ⟨u, ?_, hr⟩
  have : i - pre.length < us.length := (List.getElem?_eq_some_iff.1 hu).1
  simp only [List.getElem?_toArray]
  rw [List.getElem?_append_left (by omega)]
  rw [← hu]; congr 1; omega

inductive App where
  | same
  | at_
  | new
  | both
/-- How an append goes: nothing to do; within what is known; onto a new row; at its place or onto a new row. -/
def howApp (o m n es : Nat) (c : Option Nat) (len : Nat) (full : Bool) : Option App := match Nat.ble (o + (m + n) * es) len, c with
  | true, none => some .at_
  | true, some k => match Nat.ble (m + n) k with
    | true => some .at_
    | false => some .new
  | false, some k => match Nat.ble (m + n) k with
    | true => none
    | false => some .new
  | false, none => match full with
    | true => some .new
    | false => match Nat.beq (o + m * es) len with
      | true => some .both
      | false => none
def aAppend (T : TT) (h : H) (t tx : TypeId) (s x : AV) : Option (AV × H) := match T.at t with
  | none => none
  | some td => match td.kd with
    | .slice e => match T.at e with
      | none => none
      | some ed => match ed.zero, src h ed.size x with
        | some z, some (n, as) => match Nat.beq z.cells.length ed.size, Nat.blt 0 ed.size, srcT T tx, as.all AV.one with
          | true, true, true, true => match s, n with
            | .slN, 0 => some (.slN, h)
            | .slE, 0 => some (.slE, h)
            | .sl z r o m c es, 0 => some (.sl z r o m c es, h)
            | .slN, n + 1 => match Nat.ble (n + 1) 65536, Nat.ble ((n + 1) * ed.bytes) 1073741824 with
              | true, true => some (.sl h.nx 0 0 (n + 1) none ed.size, h.new (.row e ed.size ([] ++ ([] ++ as)) 0 false))
              | _, _ => none
            | .sl z r o m c es, n + 1 => match Nat.beq es ed.size, h.row z r, Nat.ble (m + (n + 1)) 65536, Nat.ble ((m + (n + 1)) * ed.bytes) 1073741824 with
              | true, some (ty, es', cs, full), true, true => match howApp o m (n + 1) es c cs.length full with
                | some .at_ => some (.sl z r o (m + (n + 1)) c es, h.upd z (.row ty es' (spl cs (o + m * es) as) r full))
                | some .new => match subAt cs o (m * es) with
                  | some old => some (.sl h.nx 0 0 (m + (n + 1)) none es, h.new (.row e es ([] ++ (old ++ as)) 0 false))
                  | none => none
                | some .both => match Nat.beq ty e with
                  | true => some (.sl z (r + 1) o (m + (n + 1)) none es, h.upd z (.row ty es' (cs ++ as) (r + 1) false))
                  | false => none
                | _ => none
              | _, _, _, _ => none
            | _, _ => none
          | _, _, _, _ => none
        | _, _ => none
    | _ => none
theorem Sat.tab (s : Sat E h w) {z r : Nat} {e : Ent} (he : E z r = some e) : z < h.nx := (s.fresh z r e he).1
theorem subAt_of {cs : List AV} {o n : Nat} (k : o + n ≤ cs.length) : subAt cs o n = some (sub cs o n) := by
  unfold subAt; rw [Nat.ble_eq_true_of_le k]
theorem Sat.no0 (st : Sat E h w) : E h.nx 0 = none := by
  cases hx : E h.nx 0 with
  | none => rfl
  | some e' => exact absurd (st.tab hx) (Nat.lt_irrefl _)
theorem Sat.noV (st : Sat E h w) {z : Nat} {o : OB} (hz : h.t.get z = some o) : E z (o.ver + 1) = none := by
  cases hx : E z (o.ver + 1) with
  | none => rfl
  | some e1 => have := (st.fresh _ _ _ hx).2 _ hz; omega
include hT in
/-- Onto a new row. -/
theorem app_new (st : Sat E h w) {t tx e ty : TypeId} {td ed : TD} (htd : T.at t = some td) (hkd : td.kd = .slice e) (b3 : srcT T tx = true) (hed : T.at e = some ed) {z0 : AV} (hz0 : ed.zero = some z0) (b1 : z0.cells.length = ed.size) (b2 : 0 < ed.size) {m n kk : Nat} {base : Option Addr} {u : Value} {us xs : List Value} {old as : List AV}
    (hlen : (Builtin.lenOf u).run P w = .ok n w) (hfn : ∀ w2 : World, w2.heap = w.heap → (Builtin.firstCells ed.size n u).run P w2 = .ok xs.toArray w2) (hos : ∀ w2 : World, w2.heap = w.heap → (Builtin.firstCells ed.size m (.slice base m kk)).run P w2 = .ok us.toArray w2)
    (hno : kk < m + n) (c1 : m + n ≤ 65536) (c2 : (m + n) * ed.bytes ≤ 1073741824) (hul : us.length = m * ed.size) (hxl : xs.length = n * ed.size) (h1 : VRs E old us) (hxs : VRs E as xs) :
    ∃ z w' E', (Builtin.append_ #[t, tx] ty #[.slice base m kk, u]).run P w = .ok z w' ∧ Stp E h w E' (h.new (.row e ed.size ([] ++ (old ++ as)) 0 false)) w' ∧ VR E' (.sl h.nx 0 0 (m + n) none ed.size) z := by
  obtain ⟨c, w', cc', g1, g2, g3, g4, g5, g6, g7⟩ := run_app_new (ty := ty) (os := us) (base := base) (sLen := m) (sCap := kk) htd hkd b3 hed hz0 b1 hT hlen hfn hos hno (by omega) c2 hul hxl
  have hst := Stp.new (w' := w') (o := .row e ed.size ([] ++ (old ++ as)) 0 false) (e := ⟨w.heap.size, 0, 0 + c * ed.size, ed.size⟩) st rfl rfl g3 g4 g5 g6 (OR.fresh rfl ((h1.append hxs).mono (Env.upd_le st.no0)) g7)
  refine ⟨_, w', _, g2, hst, ⟨w.heap.size, 0, 0 + c * ed.size, ed.size⟩, c, Env.upd_eq _ _ _ _, Nat.le_refl _, ?_, by omega, b2, rfl, by simp only [capOk]; omega⟩
  simp
theorem howAt {o m n es len : Nat} {c : Option Nat} {full : Bool} (hhow : howApp o m n es c len full = some .at_) {en : Ent} {kk : Nat} (hesz : en.esz = es) (hpos : 0 < es) (hlen : len ≤ en.top) (hcap : capOk en o kk c) : o + (m + n) * es ≤ len ∧ m + n ≤ kk := by
  unfold howApp at hhow
  split at hhow
  · rename_i hb
    have hb := Nat.le_of_ble_eq_true hb
    simp only [capOk, hesz] at hcap
    refine ⟨hb, ?_⟩
    have : (m + n) * es ≤ kk * es := by omega
    exact Nat.le_of_mul_le_mul_right this hpos
  · rename_i k0 hb
    split at hhow
    · rename_i hk0
      have hk0 := Nat.le_of_ble_eq_true hk0
      simp only [capOk] at hcap
      exact ⟨Nat.le_of_ble_eq_true hb, by omega⟩
    · cases hhow
  · split at hhow <;> cases hhow
  · split at hhow
    · cases hhow
    · split at hhow <;> cases hhow
theorem howNew {o m n es len : Nat} {c : Option Nat} {full : Bool} (hhow : howApp o m n es c len full = some .new) {en : Ent} {kk : Nat} (hesz : en.esz = es) (hfull : full = true → len = en.top) (hcap : capOk en o kk c) : kk < m + n := by
  unfold howApp at hhow
  split at hhow
  · cases hhow
  · rename_i k0 hb
    split at hhow
    · cases hhow
    · rename_i hk0
      simp only [capOk] at hcap
      have : ¬ m + n ≤ k0 := fun h => by rw [Nat.ble_eq_true_of_le h] at hk0; cases hk0
      omega
  · rename_i k0 hb
    split at hhow
    · cases hhow
    · rename_i hk0
      simp only [capOk] at hcap
      have : ¬ m + n ≤ k0 := fun h => by rw [Nat.ble_eq_true_of_le h] at hk0; cases hk0
      omega
  · rename_i hb
    split at hhow
    · simp only [capOk, hesz] at hcap
      have hf := hfull rfl
      have : ¬ o + (m + n) * es ≤ len := fun h => by rw [Nat.ble_eq_true_of_le h] at hb; cases hb
      have h3 : kk * es < (m + n) * es := by omega
      exact Nat.lt_of_mul_lt_mul_right h3
    · split at hhow <;> cases hhow
theorem howBoth {o m n es len : Nat} {c : Option Nat} {full : Bool} (hhow : howApp o m n es c len full = some .both) : o + m * es = len ∧ c = none := by
  unfold howApp at hhow
  split at hhow
  · cases hhow
  · split at hhow <;> cases hhow
  · split at hhow <;> cases hhow
  · split at hhow
    · cases hhow
    · split at hhow
      · rename_i hb; exact ⟨Nat.eq_of_beq_eq_true hb, rfl⟩
      · cases hhow
/-- At its place, behind what is known. -/
theorem Sat.behind (st : Sat E h w) {z r ty es : Nat} {cs as : List AV} {full : Bool} (hrow : h.row z r = some (ty, es, cs, full)) {en : Ent} (he : E z r = some en) {xs : List Value} (hxs : VRs E as xs) (b4 : as.all AV.one = true) (hroom : cs.length + as.length ≤ en.top) :
    ∃ w', (storeCells ⟨en.b, cs.length - en.sub, none⟩ xs).run P w = .ok () w' ∧ Stp E h w (E.upd z (r + 1) en) (h.upd z (.row ty es (cs ++ as) (r + 1) false)) w' := by
  obtain ⟨en', cc, lo, hi, q1, q2, q3, q4, q5, q6, q7, q8, q9⟩ := st.row hrow
  rw [he] at q1; injection q1 with q1; subst q1
  have hal := hxs.len
  obtain ⟨w', hr, hb, hoth, hsz, h5, h6, h7⟩ := st_cells (P := P) xs w cc.toList (cs.length - en.sub) 0 (by simpa using q2) (by simpa using q8) (by simp only [Array.length_toList]; omega) (hxs.ones b4)
  have hlen' : (spl cc.toList (cs.length - en.sub + 0) xs).length = cc.size := by
    rw [spl_length _ _ _ (by simp only [Array.length_toList]; omega)]; simp
  have hle : E.le (E.upd z (r + 1) en) := Env.upd_le (st.noV (H.row_ok hrow))
  refine ⟨w', hr, Stp.ver (w' := w') (o' := .row ty es (cs ++ as) (r + 1) false) (e' := en) st (H.row_ok hrow) he rfl hb (.inl rfl) (fun k _ hk => hoth k hk) (by omega) h5 h6 h7 ⟨_, lo, hi, rfl, q3, ?_, ?_, ?_, (fun h => nomatch h), ?_, ?_⟩⟩
  · rw [List.size_toArray, hlen']; exact q4
  · simp only [List.length_append]; omega
  · simp only [List.length_append]; omega
  · intro i hi'; rw [List.size_toArray, hlen'] at hi'; exact q8 i hi'
  · intro i a hi' ha
    simp only [List.getElem?_toArray, Nat.add_zero]
    rw [spl_get _ _ _ (by simp only [Array.length_toList]; omega)]
    by_cases hlt : i < cs.length
    · rw [List.getElem?_append_left hlt] at ha
      rw [if_pos (by omega)]
      obtain ⟨u, hu, hr'⟩ := q9 i a hi' ha
      exact ⟨u, by simpa using hu, hr'.mono hle⟩
    · rw [List.getElem?_append_right (by omega)] at ha
      obtain ⟨u, hu, hr'⟩ := hxs.at _ ha
      have hil := (List.getElem?_eq_some_iff.1 hu).1
      rw [if_neg (by omega), if_pos (by omega)]
      refine ⟨u, ?_, hr'.mono hle⟩
      rw [← hu]; congr 1; omega
include hT in
/-- At its place, or onto a new row. -/
theorem app_both (st : Sat E h w) {t tx ty : TypeId} {td ed : TD} {z r e : Nat} (htd : T.at t = some td) (hkd : td.kd = .slice e) (b3 : srcT T tx = true) (hed : T.at e = some ed) {z0 : AV} (hz0 : ed.zero = some z0) (b1 : z0.cells.length = ed.size) (b2 : 0 < ed.size) {o m n kk : Nat} {u : Value} {xs : List Value} {cs as : List AV} {full : Bool} {en : Ent}
    (hlen : (Builtin.lenOf u).run P w = .ok n w) (hfn : ∀ w2 : World, w2.heap = w.heap → (Builtin.firstCells ed.size n u).run P w2 = .ok xs.toArray w2) (hrow : h.row z r = some (e, ed.size, cs, full)) (he : E z r = some en) (hsub : en.sub ≤ o) (hnk : m ≤ kk) (hesz : en.esz = ed.size) (hcap : kk * ed.size + o = en.top) (hat : o + m * ed.size = cs.length)
    (c1 : m + n ≤ 65536) (c2 : (m + n) * ed.bytes ≤ 1073741824) (hxl : xs.length = n * ed.size) (hxs : VRs E as xs) (b4 : as.all AV.one = true) :
    ∃ v w' E', (Builtin.append_ #[t, tx] ty #[.slice (some ⟨en.b, o - en.sub, none⟩) m kk, u]).run P w = .ok v w' ∧ Stp E h w E' (h.upd z (.row e ed.size (cs ++ as) (r + 1) false)) w' ∧ VR E' (.sl z (r + 1) o (m + n) none ed.size) v := by
  have hal := hxs.len
  have hmul : (m + n) * ed.size = m * ed.size + n * ed.size := Nat.add_mul _ _ _
  by_cases hroom : m + n ≤ kk
  · have hmle := Nat.mul_le_mul_right ed.size hroom
    obtain ⟨w', hr, hst⟩ := st.behind (P := P) hrow he hxs b4 (by omega)
    refine ⟨_, w', _, run_app_in (ty := ty) (base := some ⟨en.b, o - en.sub, none⟩) htd hkd b3 hed hT hlen (hfn w rfl) hroom ?_, hst, en, kk, Env.upd_eq _ _ _ _, hsub, rfl, hroom, by omega, hesz, by simp only [capOk, hesz]; exact hcap⟩
    simp only
    rw [add_off hsub, hat]
    exact hr
  · obtain ⟨us', h1, h2⟩ := st.part (as := sub cs o (m * ed.size)) hrow (subAt_of (by omega)) he hsub
    have hul : us'.length = m * ed.size := by rw [h1.len]; simp [sub]; omega
    obtain ⟨c, w', cc', g1, g2, g3, g4, g5, g6, g7⟩ := run_app_new (ty := ty) (os := us') (base := some ⟨en.b, o - en.sub, none⟩) (sLen := m) (sCap := kk) htd hkd b3 hed hz0 b1 hT hlen hfn (fun w2 hw => run_firstCells_some (w := w2) ed.size m _ m kk us' hul fun j v hj => by
      have := h2 j v hj
      have hc : ∀ a, w2.cell? a = w.cell? a := fun a => by simp only [World.cell?, hw]
      rw [hc]; exact this) (by omega) (by omega) c2 hul hxl
    have hcs : cs ++ as = cs.take o ++ (sub cs o (m * ed.size) ++ as) := by
      have : sub cs o (m * ed.size) = cs.drop o := by unfold sub; rw [List.take_of_length_le (by simp; omega)]
      rw [this, ← List.append_assoc, List.take_append_drop]
    have hle : E.le (E.upd z (r + 1) ⟨w.heap.size, o, o + c * ed.size, ed.size⟩) := Env.upd_le (st.noV (H.row_ok hrow))
    have hor : OR (E.upd z (r + 1) ⟨w.heap.size, o, o + c * ed.size, ed.size⟩) ⟨w.heap.size, o, o + c * ed.size, ed.size⟩ (.row e ed.size (cs ++ as) (r + 1) false) (.cells (us' ++ xs ++ cc').toArray e) := by
      rw [hcs]
      exact OR.fresh (by simp; omega) ((h1.append hxs).mono hle) g7
    have hst := Stp.ver (w' := w') (o' := .row e ed.size (cs ++ as) (r + 1) false) (e' := ⟨w.heap.size, o, o + c * ed.size, ed.size⟩) (ob := .cells (us' ++ xs ++ cc').toArray e) st (H.row_ok hrow) he rfl (by rw [g3]; simp) (.inr rfl) (fun k hk _ => by rw [g3, Array.getElem?_push, if_neg (by omega)]) (by rw [g3]; simp) g4 g5 g6 hor
    refine ⟨_, w', _, g2, hst, ⟨w.heap.size, o, o + c * ed.size, ed.size⟩, c, Env.upd_eq _ _ _ _, Nat.le_refl _, ?_, by omega, by omega, rfl, by simp only [capOk]; omega⟩
    simp
include hT in
theorem aAppend_ok (st : Sat E h w) {t tx ty : TypeId} {s x v : AV} {us ux : Value} {h' : H} (k : aAppend T h t tx s x = some (v, h')) (hs : VR E s us) (hx : VR E x ux) :
    ∃ z w' E', (Builtin.append_ #[t, tx] ty #[us, ux]).run P w = .ok z w' ∧ Stp E h w E' h' w' ∧ VR E' v z := by
  unfold aAppend at k
  split at k
  · cases k
  · rename_i td htd
    split at k
    · rename_i e hkd
      split at k
      · cases k
      · rename_i ed hed
        split at k
        · rename_i z0 n as hz0 hsrc
          split at k
          · rename_i b1 b2 b3 b4
            have b1 := Nat.eq_of_beq_eq_true b1
            have b2 : 0 < ed.size := by rw [blt_dec] at b2; simpa using b2
            obtain ⟨hal, hlen, xs, hxs, hfc⟩ := src_ok (P := P) st hsrc hx
            have hxl : xs.length = n * ed.size := by rw [hxs.len, hal]
            have hfn : ∀ w2 : World, w2.heap = w.heap → (Builtin.firstCells ed.size n ux).run P w2 = .ok xs.toArray w2 := fun w2 hw => by
              have := hfc w2 n hw (Nat.le_refl _)
              rwa [List.take_of_length_le (by omega)] at this
            split at k
            · simp only [Option.some.injEq, Prod.mk.injEq] at k
              obtain ⟨rfl, rfl⟩ := k
              have hs' := hs
              simp only [VR] at hs; subst hs
              exact ⟨_, w, E, run_app_in (ty := ty) (base := none) htd hkd b3 hed hT (hlen w) (hfn w rfl) (Nat.le_refl _) rfl, Stp.refl st, hs'⟩
            · simp only [Option.some.injEq, Prod.mk.injEq] at k
              obtain ⟨rfl, rfl⟩ := k
              have hs' := hs
              obtain ⟨a, kk, rfl⟩ := hs
              have hx0 : xs = [] := by simpa using hxl
              subst hx0
              exact ⟨_, w, E, run_app_in (ty := ty) (base := some a) htd hkd b3 hed hT (hlen w) (hfn w rfl) (by omega) rfl, Stp.refl st, hs'⟩
            · simp only [Option.some.injEq, Prod.mk.injEq] at k
              obtain ⟨rfl, rfl⟩ := k
              have hs' := hs
              obtain ⟨en, kk, he, hsub, rfl, hnk, hpos, hesz, hcap⟩ := hs
              have hx0 : xs = [] := by simpa using hxl
              subst hx0
              exact ⟨_, w, E, run_app_in (ty := ty) (base := some _) htd hkd b3 hed hT (hlen w) (hfn w rfl) (by omega) rfl, Stp.refl st, hs'⟩
            · rename_i n
              split at k
              · rename_i c1 c2
                have c1 := Nat.le_of_ble_eq_true c1
                have c2 := Nat.le_of_ble_eq_true c2
                simp only [Option.some.injEq, Prod.mk.injEq] at k
                obtain ⟨rfl, rfl⟩ := k
                simp only [VR] at hs; subst hs
                have := app_new (ty := ty) (m := 0) (kk := 0) (base := none) (us := []) (old := []) hT st htd hkd b3 hed hz0 b1 b2 (hlen w) hfn (fun w2 _ => by simp [Builtin.firstCells]) (by omega) (by omega) (by simpa using c2) (by simp) hxl rfl hxs
                simpa only [Nat.zero_add] using this
              · cases k
            · rename_i z r o m c es n
              split at k
              · rename_i ty' es' cs full c0 hrow c1 c2
                have c0 := Nat.eq_of_beq_eq_true c0
                have c1 := Nat.le_of_ble_eq_true c1
                have c2 := Nat.le_of_ble_eq_true c2
                subst c0
                obtain ⟨en, kk, he, hsub, rfl, hnk, hpos, hesz, hcap⟩ := hs
                obtain ⟨en', cc, lo, hi, q1, q2, q3, q4, q5, q6, q7, q8, q9⟩ := st.row hrow
                rw [he] at q1; injection q1 with q1; subst q1
                have hes' : es' = ed.size := q3.symm.trans hesz
                subst hes'
                have hmul : (m + (n + 1)) * ed.size = m * ed.size + (n + 1) * ed.size := Nat.add_mul _ _ _
                split at k
                · rename_i hhow
                  simp only [Option.some.injEq, Prod.mk.injEq] at k
                  obtain ⟨rfl, rfl⟩ := k
                  have hfit := howAt hhow hesz b2 q6 hcap
                  obtain ⟨w', hr, hst⟩ := st.write (P := P) hrow he (o := o + m * ed.size) (by omega) (as := as) (us := xs) (by have h9 := hfit.1; rw [hmul] at h9; have h8 := hxs.len; have h7 : xs.length = (n + 1) * ed.size := hxl; omega) b4 hxs
                  refine ⟨_, w', E, run_app_in (ty := ty) (base := some ⟨en.b, o - en.sub, none⟩) htd hkd b3 hed hT (hlen w) (hfn w rfl) hfit.2 ?_, hst, en, kk, he, hsub, rfl, hfit.2, hpos, hesz, hcap⟩
                  simp only
                  rw [add_off hsub]
                  exact hr
                · rename_i hhow
                  split at k
                  · rename_i old hold
                    simp only [Option.some.injEq, Prod.mk.injEq] at k
                    obtain ⟨rfl, rfl⟩ := k
                    have hno := howNew hhow hesz q7 hcap
                    obtain ⟨us', h1, h2⟩ := st.part hrow hold he hsub
                    have hul : us'.length = m * ed.size := by rw [h1.len, (subAt_ok hold).2.2]
                    exact app_new (ty := ty) hT st htd hkd b3 hed hz0 b1 b2 (hlen w) hfn (fun w2 hw => run_firstCells_some (w := w2) ed.size m _ m kk us' hul fun j v hj => by
                      have := h2 j v hj
                      have hc : ∀ a, w2.cell? a = w.cell? a := fun a => by simp only [World.cell?, hw]
                      rw [hc]; exact this) hno c1 c2 hul hxl h1 hxs
                  · cases k
                · rename_i hhow
                  split at k
                  · rename_i hte
                    have hte := Nat.eq_of_beq_eq_true hte
                    subst hte
                    simp only [Option.some.injEq, Prod.mk.injEq] at k
                    obtain ⟨rfl, rfl⟩ := k
                    obtain ⟨hat, rfl⟩ := howBoth hhow
                    simp only [capOk, hesz] at hcap
                    exact app_both (ty := ty) hT st htd hkd b3 hed hz0 b1 b2 (hlen w) hfn hrow he hsub hnk hesz hcap hat c1 c2 hxl hxs b4
                  · cases k
                · cases k
              · cases k
            · cases k
          · cases k
        · cases k
    · cases k
end
end Go.Ev
