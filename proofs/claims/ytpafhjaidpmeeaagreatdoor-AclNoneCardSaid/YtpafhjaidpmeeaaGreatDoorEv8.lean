/- Words of this claim: the evaluator's operations that lay a new object; texts out of bytes; a map's length. -/
import Derived.Test.YtpafhjaidpmeeaaGreatDoorEv7
import Derived.Great.BuildSlice
import Derived.Laws.MakeOwn
set_option linter.unusedVariables false
set_option linter.unusedSimpArgs false
namespace Go.Ev
open Go.RowKit

/-- A new object, laid by an operation. -/
def Lay (P : Program) (E : Env) (w : World) (S : Sem Value) (q : Nat) (v : AV) (o : OB) : Prop :=
  ∃ z w' e ob, S.run P w = .ok z w' ∧ w'.heap = w.heap.push ob ∧ w'.os = w.os ∧ w'.tape = w.tape ∧ w'.output = w.output ∧ e.b = w.heap.size ∧ o.ver = 0 ∧ ∀ E', E.le E' → E' q 0 = some e → OR E' e o ob ∧ VR E' v z

/-- A full row of cells is what it says. -/
theorem OR.full {E : Env} {b ty es : Nat} {cs : List AV} {us : List Value} (h : VRs E cs us) : OR E ⟨b, 0, cs.length, es⟩ (.row ty es cs 0 true) (.cells us.toArray ty) := by
  refine ⟨us.toArray, 0, 0, rfl, rfl, by simp [h.len], Nat.zero_le _, Nat.le_refl _, fun _ => rfl, fun o ho => by omega, fun i a _ hi => ?_⟩
  obtain ⟨u, hu, hr⟩ := h.at _ hi
  exact ⟨u, by simpa using hu, hr⟩

section
variable {P : Program} {T : TT} (hT : TOK P T) {E : Env} {w : World}

def aAlloc (T : TT) (q : Nat) (t : TypeId) : Option (AV × OB) := match T.at t with
  | some td => match td.zero with
    | some z => some (.ptr q 0 0, .row t td.size z.cells 0 true)
    | none => none
  | none => none
include hT in
theorem aAlloc_ok {q t : Nat} {v : AV} {o : OB} (k : aAlloc T q t = some (v, o)) : Lay P E w (Instr.alloc t true (.tuple #[])) q v o := by
  unfold aAlloc at k
  split at k
  · rename_i td htd
    split at k
    · rename_i z hz
      simp only [Option.some.injEq, Prod.mk.injEq] at k
      obtain ⟨rfl, rfl⟩ := k
      obtain ⟨vz, hzr, hzv⟩ := hT.zero htd hz w
      refine ⟨.pointer (some ⟨w.heap.size, 0, none⟩), w.alloc (.cells vz.cells t), ⟨w.heap.size, 0, z.cells.length, td.size⟩, .cells vz.cells t, ?_, rfl, rfl, rfl, rfl, rfl, rfl, fun E' hle he => ⟨?_, _, he, Nat.le_refl _, rfl⟩⟩
      · simp only [Instr.alloc, Sem.run_bind, hzr, Result.andThen_ok, newVar, newRow, run_newObj, Sem.run_pure]; rfl
      · have := OR.full (b := w.heap.size) (ty := t) (es := td.size) (hzv E').cells
        simpa using this
    · cases k
  · cases k
def aBox (q : Nat) (t : TypeId) (x : AV) : AV × OB := (.ptr q 0 0, .row t x.cells.length x.cells 0 true)
theorem aBox_ok {q t : Nat} {x : AV} {u : Value} (hx : VR E x u) : Lay P E w (Instr.box t u) q (aBox q t x).1 (aBox q t x).2 := by
  refine ⟨.pointer (some ⟨w.heap.size, 0, none⟩), w.alloc (.cells u.cells t), ⟨w.heap.size, 0, x.cells.length, x.cells.length⟩, .cells u.cells t, ?_, rfl, rfl, rfl, rfl, rfl, rfl, fun E' hle he => ⟨?_, _, he, Nat.le_refl _, rfl⟩⟩
  · simp only [Instr.box, newVar, newRow, Sem.run_bind, run_newObj, Sem.run_pure, Result.andThen_ok]; rfl
  · have := OR.full (b := w.heap.size) (ty := t) (es := x.cells.length) (hx.mono hle).cells
    simpa [aBox] using this
/-- So many cells of zeros. -/
def azeros (z : List AV) (n : Nat) : List AV := (List.range n).map fun j => match z[Nat.mod j z.length]? with
  | some a => a
  | none => .undef
theorem azeros_ok {z : AV} {vz : Value} (h : ∀ E, VR E z vz) (hn : 0 < z.cells.length) (n : Nat) : VRs E (azeros z.cells n) ((Array.range n).map (vz.cells[· % vz.cells.size]!)).toList := by
  refine VRs.of_fn (by simp [azeros]) fun i a hi => ?_
  unfold azeros at hi
  rw [List.getElem?_map, Option.map_eq_some_iff] at hi
  obtain ⟨j, hj, ha⟩ := hi
  have hji := (List.getElem?_eq_some_iff.1 hj)
  obtain ⟨hlt, hji⟩ := hji
  simp only [List.getElem_range] at hji
  subst hji
  simp only [List.length_range] at hlt
  have hc := (h E).cells
  have hl := hc.len
  have hl2 : vz.cells.size = z.cells.length := by simpa using hl
  have hm : Nat.mod i z.cells.length < z.cells.length := Nat.mod_lt _ hn
  rw [List.getElem?_eq_getElem hm] at ha
  obtain ⟨u, hu, hr⟩ := hc.at (Nat.mod i z.cells.length) (List.getElem?_eq_getElem hm)
  refine ⟨u, ?_, by rw [← ha]; exact hr⟩
  have hm' : i % vz.cells.size < vz.cells.size := Nat.mod_lt _ (by omega)
  have he : Nat.mod i z.cells.length = i % vz.cells.size := by rw [hl2]; rfl
  rw [he] at hu
  simp only [Array.getElem?_toList] at hu
  simp [hlt, getElem!_def, hu]
def aBuildSlice (T : TT) (q : Nat) (t : TypeId) (n : Nat) (parts : List (Nat × AV)) : Option (AV × OB) := match T.at t with
  | some td => match td.kd with
    | .slice e => match T.at e with
      | some ed => match ed.zero, ed.size with
        | some z, es + 1 => match Nat.ble (n * (es + 1)) 65536, Nat.beq z.cells.length (es + 1), alay (fun i => some (i * (es + 1), es + 1)) (azeros z.cells (n * (es + 1))) parts with
          | true, true, some cs => match Nat.beq cs.length (n * (es + 1)) with
            | true => some (.sl q 0 0 n (some n) (es + 1), .row e (es + 1) cs 0 true)
            | false => none
          | _, _, _ => none
        | _, _ => none
      | none => none
    | _ => none
  | none => none
include hT in
theorem aBuildSlice_ok {q t n : Nat} {parts : List (Nat × AV)} {vp : List (Nat × Value)} {v : AV} {o : OB} (k : aBuildSlice T q t n parts = some (v, o)) (hp : PR E parts vp) : Lay P E w (Instr.buildSlice t n vp.toArray) q v o := by
  unfold aBuildSlice at k
  split at k
  · rename_i td htd
    split at k
    · rename_i e hk
      split at k
      · rename_i ed hed
        split at k
        · rename_i z es hz hes
          split at k
          · rename_i cs h1 h2 h3
            split at k
            · rename_i h4
              simp only [Option.some.injEq, Prod.mk.injEq] at k
              obtain ⟨rfl, rfl⟩ := k
              have h1 := Nat.le_of_ble_eq_true h1
              have h2 := Nat.eq_of_beq_eq_true h2
              have h4 := Nat.eq_of_beq_eq_true h4
              obtain ⟨vz, hzr, hzv⟩ := hT.zero hed hz w
              have hz0 := azeros_ok (E := E) hzv (by omega) (n * (es + 1))
              obtain ⟨out', ho1, ho2⟩ := alay_ok h3 hz0 hp
              refine ⟨.slice (some ⟨w.heap.size, 0, none⟩) n n, w.alloc (.cells out'.toArray e), ⟨w.heap.size, 0, cs.length, es + 1⟩, .cells out'.toArray e, ?_, rfl, rfl, rfl, rfl, rfl, rfl, fun E' hle he => ⟨OR.full (ho2.mono hle), ?_⟩⟩
              · have hu := hT.slice htd hk
                have hs := hT.size hed w
                rw [hes] at hs
                simp only [Array.toArray_toList] at ho1
                by_cases h0 : n * es.succ = 0
                · have he0 : Array.range (n * es.succ) = #[] := by rw [h0]; simp [Array.range]
                  simp only [Instr.buildSlice, Sem.run_bind, run_underlying hu, Result.andThen_ok, hs, Sem.run_ite, if_neg (show ¬ n * (es + 1) > 2 ^ 24 by omega), Sem.run_pure, if_pos h0]
                  rw [show Array.range (n * (es + 1)) = #[] from he0] at ho1
                  rw [he0]
                  simp only [Array.map_empty] at ho1 ⊢
                  simp only [ho1, newRow, Sem.run_bind, run_newObj, Sem.run_pure, Result.andThen_ok]
                  rfl
                · simp only [Instr.buildSlice, Sem.run_bind, run_underlying hu, Result.andThen_ok, hs, Sem.run_ite, if_neg (show ¬ n * (es + 1) > 2 ^ 24 by omega), Sem.run_pure, if_neg h0, hzr]
                  simp only [ho1, newRow, Sem.run_bind, run_newObj, Sem.run_pure, Result.andThen_ok]
                  rfl
              · exact ⟨_, n, he, Nat.le_refl _, rfl, Nat.le_refl _, Nat.succ_pos _, rfl, rfl, by simp only [Nat.add_zero]; omega⟩
            · cases k
          · cases k
        · cases k
      · cases k
    · cases k
  · cases k
def aMakeSlice (T : TT) (q : Nat) (t : TypeId) (l c : AV) : Option (AV × OB) := match T.at t, l, c with
  | some td, .int .i64 (.ofNat l), .int .i64 (.ofNat c) => match td.kd with
    | .slice e => match T.at e with
      | some ed => match ed.zero, ed.size with
        | some z, es + 1 => match Nat.ble l c, Nat.ble (ed.bytes * c) 1073741824, Nat.ble c 65536, Nat.beq z.cells.length (es + 1) with
          | true, true, true, true => some (.sl q 0 0 l (some c) (es + 1), .row e (es + 1) (azeros z.cells (c * (es + 1))) 0 true)
          | _, _, _, _ => none
        | _, _ => none
      | none => none
    | _ => none
  | _, _, _ => none
include hT in
theorem aMakeSlice_ok {q t : Nat} {l c : AV} {ul uc : Value} {v : AV} {o : OB} (k : aMakeSlice T q t l c = some (v, o)) (hl : VR E l ul) (hc : VR E c uc) : Lay P E w (Instr.makeSlice t ul uc) q v o := by
  unfold aMakeSlice at k
  split at k
  · rename_i td l' c' htd
    simp only [VR] at hl hc; subst hl; subst hc
    split at k
    · rename_i e hk
      split at k
      · rename_i ed hed
        split at k
        · rename_i z es hz hes
          split at k
          · rename_i h1 h2 h3 h4
            simp only [Option.some.injEq, Prod.mk.injEq] at k
            obtain ⟨rfl, rfl⟩ := k
            have h1 := Nat.le_of_ble_eq_true h1
            have h2 := Nat.le_of_ble_eq_true h2
            have h3 := Nat.le_of_ble_eq_true h3
            have h4 := Nat.eq_of_beq_eq_true h4
            obtain ⟨vz, hzr, hzv⟩ := hT.zero hed hz w
            have hz0 := fun E' => azeros_ok (E := E') hzv (by omega) (c' * (es + 1))
            obtain ⟨i, hi, hib, _⟩ := hT.info hed w
            have hu := hT.slice htd hk
            have hs := hT.size hed w
            rw [hes] at hs
            have hw1 : IntKind.i64.wrap (Int.ofNat l') = l' := by rw [wrap_i64'']; simp only [Int.ofNat_eq_natCast]; omega
            have hw2 : IntKind.i64.wrap (Int.ofNat c') = c' := by rw [wrap_i64'']; simp only [Int.ofNat_eq_natCast]; omega
            have hbc : ((i.bytes : Int) * (c' : Int)) ≤ 1073741824 := by
              have h2' : ((ed.bytes * c' : Nat) : Int) ≤ 1073741824 := by omega
              rw [Int.natCast_mul] at h2'
              rw [hib]; exact h2'
            have hcond : ((decide ((c' : Int) < 0) || decide ((i.bytes : Int) * (c' : Int) > 2 ^ 48)) || decide ((l' : Int) < 0) || decide ((l' : Int) > (c' : Int))) = false := by
              simp only [Bool.or_eq_false_iff, decide_eq_false_iff_not]
              refine ⟨⟨⟨by omega, by omega⟩, by omega⟩, by omega⟩
            have hlen : (azeros z.cells (c' * (es + 1))).length = c' * (es + 1) := by simp [azeros]
            refine ⟨.slice (some ⟨w.heap.size, 0, none⟩) l' c', w.alloc (.cells ((Array.range (c' * (es + 1))).map (vz.cells[· % vz.cells.size]!)) e), ⟨w.heap.size, 0, (azeros z.cells (c' * (es + 1))).length, es + 1⟩, .cells ((Array.range (c' * (es + 1))).map (vz.cells[· % vz.cells.size]!)) e, ?_, rfl, rfl, rfl, rfl, rfl, rfl, fun E' hle he => ⟨by have := OR.full (b := w.heap.size) (ty := e) (es := es + 1) (hz0 E'); rwa [Array.toArray_toList] at this, ?_⟩⟩
            · by_cases h0 : c' * es.succ = 0
              · have he0 : Array.range (c' * es.succ) = #[] := by rw [h0]; simp [Array.range]
                have he1 : Array.range (c' * (es + 1)) = #[] := he0
                rw [he1]
                simp only [Instr.makeSlice, Sem.run_bind, run_underlying hu, Result.andThen_ok, asInt, asIntOf, Sem.run_pure, hi, hw1, hw2, hcond, Bool.false_eq_true, if_false, run_askRoom, Int.toNat_natCast, hs, Sem.run_ite, if_pos h0, newRow, run_newObj]
                rw [he0]
                simp only [Array.map_empty]
                rfl
              · simp only [Instr.makeSlice, Sem.run_bind, run_underlying hu, Result.andThen_ok, asInt, asIntOf, Sem.run_pure, hi, hw1, hw2, hcond, Bool.false_eq_true, if_false, run_askRoom, Int.toNat_natCast, hs, Sem.run_ite, if_neg h0, hzr, newRow, run_newObj]
                rfl
            · exact ⟨_, c', he, Nat.le_refl _, rfl, h1, Nat.succ_pos _, rfl, rfl, by simp only [Nat.add_zero, hlen]; omega⟩
          · cases k
        · cases k
      · cases k
    · cases k
  · cases k
theorem aMakeMap_ok {q t : Nat} : Lay P E w (Instr.makeMap t none) q (.map q) (.mp [] 0) :=
  ⟨.map (some w.heap.size), w.alloc (.map #[] 0), ⟨w.heap.size, 0, 0, 0⟩, .map #[] 0, rfl, rfl, rfl, rfl, rfl, rfl, rfl, fun E' hle he => ⟨⟨[], rfl, rfl⟩, _, he, rfl⟩⟩

/-! ### Reading: a text out of bytes, a map's length -/
def bytesOf : List AV → Option (List Nat)
  | [] => some []
  | .int .u8 (.ofNat m) :: r => match Nat.blt m 256, bytesOf r with
    | true, some s => some (m :: s)
    | _, _ => none
  | _ :: _ => none
theorem bytesOf_ok : ∀ {as : List AV} {us : List Value} {s : List Nat}, bytesOf as = some s → VRs E as us → us = s.map (fun (m : Nat) => Value.int .u8 (m : Int)) ∧ ∀ x ∈ s, x < 256
  | [], us, s, k, h => by
    simp only [bytesOf, Option.some.injEq] at k; subst k
    simp only [VRs] at h; subst h
    exact ⟨rfl, fun x hx => by cases hx⟩
  | .int .u8 (.ofNat m) :: r, us, s, k, h => by
    obtain ⟨u, us', rfl, hu, hr⟩ := h
    simp only [VR] at hu; subst hu
    simp only [bytesOf] at k
    split at k
    · rename_i s' hm hs'
      injection k with k; subst k
      obtain ⟨rfl, h2⟩ := bytesOf_ok hs' hr
      rw [blt_dec] at hm
      have hm : m < 256 := by simpa using hm
      exact ⟨rfl, fun x hx => by rcases List.mem_cons.1 hx with rfl | hx; exact hm; exact h2 x hx⟩
    · cases k
theorem run_pushes (w : World) : ∀ (s : List Nat) (b : ByteArray), (forIn (s.map fun (m : Nat) => Value.int .u8 (m : Int)) b fun c r => (do
      let .int .u8 n := c | stuck "bytesToString: byte expected"
      pure (ForInStep.yield (r.push (UInt8.ofNat n.toNat))) : Sem (ForInStep ByteArray))).run P w = .ok (b ++ mkS s) w
  | [], b => by
    have : b ++ mkS [] = b := by apply ByteArray.ext; simp [mkS]
    simp [this]
  | m :: s, b => by
    simp only [List.map_cons, List.forIn_cons, Sem.run_bind, Sem.run_pure, Result.andThen_ok, Int.toNat_natCast]
    rw [run_pushes w s]
    congr 1
    apply ByteArray.ext
    simp [mkS]
def aBytesStr (T : TT) (h : H) (s d : TypeId) (x : AV) : Option AV := match T.at s, T.at d with
  | some sd, some dd => match sd.kd, dd.kd with
    | .slice e, .str => match T.at e with
      | some ed => match ed.kd, x with
        | .int .u8, .slN => some (.str [])
        | .int .u8, .sl z r o n _ _ => match h.row z r with
          | some (_, _, cs, _) => match subAt cs o n with
            | some as => match bytesOf as with
              | some s => some (.str s)
              | none => none
            | none => none
          | none => none
        | _, _ => none
      | none => none
    | _, _ => none
  | _, _ => none
include hT in
theorem aBytesStr_ok {h : H} (st : Sat E h w) {s d : TypeId} {x r : AV} {u : Value} (k : aBytesStr T h s d x = some r) (hx : VR E x u) : ∃ z, (convert s d u).run P w = .ok z w ∧ VR E r z := by
  unfold aBytesStr at k
  split at k
  · rename_i sd dd hs hd
    split at k
    · rename_i e hks hkd
      split at k
      · rename_i ed hed
        have hus := hT.slice hs hks
        have hud := hT.str hd hkd
        split at k
        · rename_i hke
          injection k with k; subst k
          simp only [VR] at hx; subst hx
          have hue := hT.int hed hke
          refine ⟨.string .empty, ?_, rfl, fun x hx => by cases hx⟩
          simp only [convert, Sem.run_bind, run_underlying hus, run_underlying hud, run_underlying hue, Result.andThen_ok, Conv.bytesToString, Sem.run_pure]
        · rename_i z r' o n c es hke
          split at k
          · rename_i ty es' cs full hrow
            split at k
            · rename_i as has
              split at k
              · rename_i b hb
                injection k with k; subst k
                obtain ⟨en, kk, he, hsub, rfl, _⟩ := hx
                have hue := hT.int hed hke
                obtain ⟨us, h1, h2⟩ := st.part hrow has he hsub
                have hl : us.length = n := by rw [h1.len]; exact (subAt_ok has).2.2
                have h3 := run_loadCells_list (P := P) (w := w) (⟨en.b, o - en.sub, none⟩ : Addr) us h2
                rw [hl] at h3
                obtain ⟨rfl, h5⟩ := bytesOf_ok hb h1
                refine ⟨.string (mkS b), ?_, rfl, h5⟩
                simp only [convert, Sem.run_bind, run_underlying hus, run_underlying hud, run_underlying hue, Result.andThen_ok, Conv.bytesToString, h3]
                rw [← Array.forIn_toList]
                have := run_pushes (P := P) w b ByteArray.empty
                have he0 : ByteArray.empty ++ mkS b = mkS b := by apply ByteArray.ext; simp [mkS]
                rw [he0] at this
                simp only [List.toList_toArray]
                erw [this]
                rfl
              · cases k
            · cases k
          · cases k
        · cases k
      · cases k
    · cases k
  · cases k
def aLenMap (T : TT) (h : H) (t : TypeId) (x : AV) : Option AV := match T.at t, h.map x with
  | some td, some es => match td.kd with
    | .map _ _ => some (.int .i64 (.ofNat es.length))
    | _ => none
  | _, _ => none
theorem ERs.len : ∀ {as : List (AV × AV × Nat)} {es : List MapEntry}, ERs E as es → es.length = as.length
  | [], es, h => by simp only [ERs] at h; rw [h]; rfl
  | (_, _, _) :: as, es, h => by
    obtain ⟨e, r, rfl, _, _, _, h5⟩ := h
    simp [ERs.len h5]
include hT in
theorem aLenMap_ok {h : H} (st : Sat E h w) {t ty : TypeId} {x r : AV} {u : Value} (k : aLenMap T h t x = some r) (hx : VR E x u) : ∃ z, (Builtin.len_ #[t] ty #[u]).run P w = .ok z w ∧ VR E r z := by
  unfold aLenMap at k
  split at k
  · rename_i td es htd hes
    split at k
    · rename_i kt et hk
      injection k with k; subst k
      have hu := hT.map htd hk
      obtain ⟨ms, hms, hm⟩ := st.map hes hx
      have hl := hms.len
      rcases hm with ⟨rfl, rfl⟩ | ⟨b, c, rfl, hb⟩
      · refine ⟨.int .i64 0, by simp [Builtin.len_, run_underlying hu, goInt], ?_⟩
        simp only [List.length_nil] at hl
        rw [← hl]; rfl
      · refine ⟨.int .i64 ms.length, by simp [Builtin.len_, run_underlying hu, goInt, run_getMap hb], ?_⟩
        rw [← hl]; rfl
    · cases k
  · cases k
end
end Go.Ev
