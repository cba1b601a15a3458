/- Words of this claim: the evaluator's operations that look at no memory: structs laid out, conversions, the rest; all of them in one. -/
import Derived.Test.YtpafhjaidpmeeaaGreatDoorEv5
import Derived.Laws.Tables
set_option linter.unusedVariables false
set_option linter.unusedSimpArgs false
namespace Go.Ev
open Go.RowKit

/-! ### Parts laid into cells -/
def spl {α : Type} (cs : List α) (o : Nat) (vs : List α) : List α := cs.take o ++ (vs ++ cs.drop (o + vs.length))
theorem spl_cons {α : Type} (cs : List α) (o : Nat) (v : α) (vs : List α) (h : o < cs.length) : spl (cs.set o v) (o + 1) vs = spl cs o (v :: vs) := by
  unfold spl
  have h1 : (cs.set o v).take (o + 1) = cs.take o ++ [v] := by
    rw [List.take_succ_eq_append_getElem (by simpa using h), List.take_set_of_le (Nat.le_refl _)]
    simp
  have h2 : (cs.set o v).drop (o + 1 + vs.length) = cs.drop (o + (v :: vs).length) := by
    rw [List.drop_set_of_lt (by omega)]
    simp [Nat.add_comm, Nat.add_left_comm]
  rw [h1, h2]
  simp
theorem spl_nil {α : Type} (cs : List α) (o : Nat) : spl cs o [] = cs := by simp [spl]
theorem spl_length {α : Type} (cs : List α) (o : Nat) (vs : List α) (h : o + vs.length ≤ cs.length) : (spl cs o vs).length = cs.length := by
  unfold spl
  simp
  omega
theorem spl_get {α : Type} (cs : List α) (o : Nat) (vs : List α) (h : o + vs.length ≤ cs.length) (i : Nat) : (spl cs o vs)[i]? = if i < o then cs[i]? else if i < o + vs.length then vs[i - o]? else cs[i]? := by
  unfold spl
  split
  · rename_i h1
    rw [List.getElem?_append_left (by simp; omega), List.getElem?_take, if_pos h1]
  · rename_i h1
    rw [List.getElem?_append_right (by simp; omega)]
    have hl : (cs.take o).length = o := by simp; omega
    rw [hl]
    split
    · rename_i h2
      rw [List.getElem?_append_left (by omega)]
    · rename_i h2
      rw [List.getElem?_append_right (by omega), List.getElem?_drop]
      congr 1
      omega
theorem fold_spl : ∀ (vs : List Value) (cs : List Value) (o j : Nat), o + j + vs.length ≤ cs.length →
    ((vs.zipIdx j).foldl (fun (a : Array Value) (x : Value × Nat) => a.setIfInBounds (o + x.2) x.1) cs.toArray) = (spl cs (o + j) vs).toArray
  | [], cs, o, j, h => by simp [spl_nil]
  | v :: vs, cs, o, j, h => by
    simp only [List.length_cons] at h
    simp only [List.zipIdx_cons, List.foldl_cons, List.setIfInBounds_toArray]
    rw [fold_spl vs (cs.set (o + j) v) o (j + 1) (by simp; omega), ← Nat.add_assoc, spl_cons cs (o + j) v vs (by omega)]

def alay (pl : Nat → Option (Nat × Nat)) : List AV → List (Nat × AV) → Option (List AV)
  | cs, [] => some cs
  | cs, (i, a) :: r => match pl i with
    | none => none
    | some (o, n) => match Nat.beq a.cells.length n, Nat.ble (o + n) cs.length with
      | true, true => alay pl (spl cs o a.cells) r
      | _, _ => none
def PR (E : Env) : List (Nat × AV) → List (Nat × Value) → Prop
  | [], vs => vs = []
  | (i, a) :: as, vs => ∃ u r, vs = (i, u) :: r ∧ VR E a u ∧ PR E as r
section
variable {P : Program} {T : TT} (hT : TOK P T) {E : Env} (w : World)
theorem VRs.spl {as bs : List AV} {us vs : List Value} (h : VRs E as us) (k : VRs E bs vs) (o : Nat) : VRs E (spl as o bs) (Go.Ev.spl us o vs) := by
  unfold Go.Ev.spl
  rw [k.len]
  exact (h.take o).append (k.append (h.drop _))
theorem alay_ok {pl : Nat → Option (Nat × Nat)} : ∀ {parts : List (Nat × AV)} {as out : List AV} {us : List Value} {vparts : List (Nat × Value)}, alay pl as parts = some out → VRs E as us → PR E parts vparts →
    ∃ out', Instr.fill pl us.toArray vparts = some out'.toArray ∧ VRs E out out'
  | [], as, out, us, vp, h, hu, hp => by
    simp only [alay, Option.some.injEq] at h; subst h
    simp only [PR] at hp; subst hp
    exact ⟨us, rfl, hu⟩
  | (i, a) :: r, as, out, us, vp, h, hu, hp => by
    obtain ⟨u, vr, rfl, ha, hr⟩ := hp
    simp only [alay] at h
    split at h
    · cases h
    · rename_i o n hpl
      split at h
      · rename_i h1 h2
        have h1 := Nat.eq_of_beq_eq_true h1
        have h2 := Nat.le_of_ble_eq_true h2
        have hc := ha.cells
        have hl1 := hc.len
        have hl2 := hu.len
        obtain ⟨out', hf, ho⟩ := alay_ok h (hu.spl hc o) hr
        refine ⟨out', ?_, ho⟩
        have hf2 := fold_spl u.cells.toList us o 0 (by omega)
        unfold Instr.fill
        simp only [hpl]
        have hsz : u.cells.size = u.cells.toList.length := by simp
        rw [if_neg (by simp only [bne_iff_ne, ne_eq, Bool.or_eq_true, decide_eq_true_eq, gt_iff_lt, List.size_toArray, not_or, Decidable.not_not, Nat.not_lt]; omega)]
        have he : u.cells.zipIdx.foldl (fun cs (x : Value × Nat) => cs.setIfInBounds (o + x.2) x.1) us.toArray = (spl us o u.cells.toList).toArray := by
          rw [← Array.foldl_toList, Array.toList_zipIdx]
          simpa using hf2
        rw [← he] at hf
        exact hf
      · cases h
/-- Where a struct's fields lie. -/
def pls (T : TT) : List (TypeId × Nat × Bool) → Option (List (Nat × Nat))
  | [] => some []
  | (t, o, _) :: fs => match T.at t, pls T fs with
    | some td, some r => some ((o, td.size) :: r)
    | _, _ => none
include hT in
theorem pls_ok : ∀ {fs : List Field} {ps : List (Nat × Nat)}, pls T (fs.map fun f => (f.type, f.offset, f.name == "_")) = some ps → fs.mapM (fun f => (P.info? f.type).map fun i => (f.offset, i.size)) = some ps
  | [], ps, h => by simp only [List.map_nil, pls, Option.some.injEq] at h; subst h; rfl
  | f :: fs, ps, h => by
    simp only [List.map_cons, pls] at h
    split at h
    · rename_i td r htd hr
      injection h with h; subst h
      obtain ⟨i, d, hi, hd, h1, h2, _⟩ := hT.get htd
      simp only [List.mapM_cons, hi, Option.map_some, pls_ok hr, h2]
      rfl
    · cases h
def aBuild (T : TT) (t : TypeId) (parts : List (Nat × AV)) : Option AV := match T.at t with
  | none => none
  | some td => match td.kd, td.zero with
    | .struct fs, some (.agg z) => match pls T fs with
      | some ps => match alay (fun i => ps[i]?) z parts with
        | some cs => some (.agg cs)
        | none => none
      | none => none
    | .array _ e, some (.agg z) => match T.at e with
      | some ed => match alay (fun i => some (i * ed.size, ed.size)) z parts with
        | some cs => some (.agg cs)
        | none => none
      | none => none
    | _, _ => none
include hT in
theorem aBuild_ok {t : TypeId} {parts : List (Nat × AV)} {vp : List (Nat × Value)} {r : AV} (h : aBuild T t parts = some r) (hp : PR E parts vp) : ∃ z, (Instr.build t vp.toArray).run P w = .ok z w ∧ VR E r z := by
  unfold aBuild at h
  split at h
  · cases h
  · rename_i td htd
    obtain ⟨i, d, hi, hd, h1, h2, h3, h4, h5⟩ := hT.get htd
    split at h
    · rename_i fs z hk hz
      split at h
      · rename_i ps hps
        split at h
        · rename_i cs hcs
          injection h with h; subst h
          obtain ⟨v, hv, hv'⟩ := h5 _ hz
          obtain ⟨us, rfl, hus⟩ := ofV_ok (E := E) hv'
          obtain ⟨fs', hu, hfs⟩ := hT.struct htd hk
          rw [← hfs] at hps
          obtain ⟨out', ho1, ho2⟩ := alay_ok hcs hus hp
          refine ⟨.agg out'.toArray, run_build w t vp.toArray out'.toArray ?_, out', rfl, ho2⟩
          unfold Program.built
          simp only [hi, hu, hv, pls_ok hT hps, List.getElem?_toArray]
          exact ho1
        · cases h
      · cases h
    · rename_i n e z hk hz
      split at h
      · rename_i ed hed
        split at h
        · rename_i cs hcs
          injection h with h; subst h
          obtain ⟨v, hv, hv'⟩ := h5 _ hz
          obtain ⟨us, rfl, hus⟩ := ofV_ok (E := E) hv'
          have hu := hT.array htd hk
          obtain ⟨i', d', hi', _, _, h2', _⟩ := hT.get hed
          obtain ⟨out', ho1, ho2⟩ := alay_ok hcs hus hp
          refine ⟨.agg out'.toArray, run_build w t vp.toArray out'.toArray ?_, out', rfl, ho2⟩
          unfold Program.built
          simp only [hi, hu, hv, hi', ← h2']
          exact ho1
        · cases h
      · cases h
    · cases h

/-! ### The rest -/
def aConv (T : TT) (s d : TypeId) (x : AV) : Option AV := match T.at s, T.at d with
  | some _, some dd => match dd.kd, x with
    | .int k, .int _ n => some (.int k (wrapF k n))
    | .str, .str b => some (.str b)
    | _, _ => none
  | _, _ => none
include hT in
theorem aConv_ok {s d : TypeId} {x r : AV} {u : Value} (h : aConv T s d x = some r) (hx : VR E x u) : ∃ z, (convert s d u).run P w = .ok z w ∧ VR E r z := by
  unfold aConv at h
  split at h
  · rename_i sd dd hs hd
    obtain ⟨_, ds, _, hus, _⟩ := hT.get hs
    split at h
    · rename_i k k' n hk
      injection h with h; subst h
      simp only [VR] at hx; subst hx
      have hu := hT.int hd hk
      refine ⟨.int k (k.wrap n), ?_, by simp only [VR, wrapF_eq]⟩
      simp only [convert, Sem.run_bind, run_underlying hus, run_underlying hu, Result.andThen_ok]
      cases ds <;> rfl
    · rename_i b hk
      injection h with h; subst h
      have hx' := hx
      simp only [VR] at hx
      obtain ⟨rfl, hb⟩ := hx
      have hu := hT.str hd hk
      refine ⟨_, ?_, hx'⟩
      simp only [convert, Sem.run_bind, run_underlying hus, run_underlying hu, Result.andThen_ok]
      cases ds <;> rfl
    · cases h
  · cases h
def aMkI (T : TT) (t : TypeId) (x : AV) : Option AV := match T.at t with
  | some td => match td.kd with
    | .iface => none
    | _ => some (.iface t x)
  | none => none
include hT in
theorem aMkI_ok {t : TypeId} {x r : AV} {u : Value} (h : aMkI T t x = some r) (hx : VR E x u) : ∃ z, (Instr.makeInterface t u).run P w = .ok z w ∧ VR E r z := by
  unfold aMkI at h
  split at h
  · rename_i td htd
    obtain ⟨_, d, _, hu, h1, _⟩ := hT.get htd
    split at h
    · cases h
    · rename_i hk
      injection h with h; subst h
      refine ⟨.iface t u, ?_, u, rfl, hx⟩
      simp only [Instr.makeInterface, Sem.run_bind, run_underlying hu, Result.andThen_ok]
      cases d <;> first | rfl | (exact absurd h1 hk)
  · cases h
def aAssert (T : TT) (x : AV) (t : TypeId) (ok : Bool) : Option AV := match x, T.at t with
  | .iface s v, some td => match td.kd with
    | .iface => none
    | _ => match Nat.beq s t, ok with
      | true, true => some (.tup [v, .bool true])
      | true, false => some v
      | false, true => match td.zero with
        | some z => some (.tup [z, .bool false])
        | none => none
      | false, false => none
  | .ifN, some td => match td.kd, ok, td.zero with
    | .iface, _, _ => none
    | _, true, some z => some (.tup [z, .bool false])
    | _, _, _ => none
  | _, _ => none
include hT in
theorem aAssert_ok {t xt : TypeId} {x r : AV} {ok : Bool} {u : Value} (h : aAssert T x t ok = some r) (hx : VR E x u) : ∃ z, (Instr.typeAssert u xt t ok).run P w = .ok z w ∧ VR E r z := by
  unfold aAssert at h
  split at h
  · rename_i s v td htd
    obtain ⟨_, d, _, hu, h1, _⟩ := hT.get htd
    obtain ⟨uv, rfl, hv⟩ := hx
    split at h
    · cases h
    · rename_i hk
      have hd : ∀ m, d ≠ .interface m := fun m e => hk (by rw [h1, e]; rfl)
      split at h
      · rename_i hs
        injection h with h; subst h
        have hs := Nat.eq_of_beq_eq_true hs; subst hs
        refine ⟨.tuple #[uv, .bool true], ?_, [uv, .bool true], rfl, uv, _, rfl, hv, _, _, rfl, rfl, rfl⟩
        simp only [Instr.typeAssert, Sem.run_bind, run_underlying hu, Result.andThen_ok]
        cases d <;> first | (exact absurd rfl (hd _)) | simp
      · rename_i hs
        injection h with h; subst h
        have hs := Nat.eq_of_beq_eq_true hs; subst hs
        refine ⟨uv, ?_, hv⟩
        simp only [Instr.typeAssert, Sem.run_bind, run_underlying hu, Result.andThen_ok]
        cases d <;> first | (exact absurd rfl (hd _)) | simp
      · rename_i hs
        have hs : ¬ s = t := fun e => by subst e; simp at hs
        split at h
        · rename_i z hz
          injection h with h; subst h
          obtain ⟨vz, hzr, hzv⟩ := hT.zero htd hz w
          refine ⟨.tuple #[vz, .bool false], ?_, [vz, .bool false], rfl, vz, _, rfl, hzv E, _, _, rfl, rfl, rfl⟩
          simp only [Instr.typeAssert, Sem.run_bind, run_underlying hu, Result.andThen_ok]
          cases d <;> first | (exact absurd rfl (hd _)) | simp [hs, hzr]
        · cases h
      · cases h
  · rename_i td htd
    obtain ⟨_, d, _, hu, h1, _⟩ := hT.get htd
    simp only [VR] at hx; subst hx
    split at h
    · cases h
    · rename_i hk z hz hne
      have hd : ∀ m, d ≠ .interface m := fun m e => hne (by rw [h1, e]; rfl)
      injection h with h; subst h
      obtain ⟨vz, hzr, hzv⟩ := hT.zero htd hz w
      refine ⟨.tuple #[vz, .bool false], ?_, [vz, .bool false], rfl, vz, _, rfl, hzv E, _, _, rfl, rfl, rfl⟩
      simp only [Instr.typeAssert, Sem.run_bind, run_underlying hu, Result.andThen_ok]
      cases d <;> first | (exact absurd rfl (hd _)) | simp [hzr]
    · cases h
  · cases h
def aLen (x : AV) : Option AV := match x with
  | .str s => some (.int .i64 (.ofNat s.length))
  | .slN => some (.int .i64 (.ofNat 0))
  | .slE => some (.int .i64 (.ofNat 0))
  | .sl _ _ _ n _ _ => some (.int .i64 (.ofNat n))
  | _ => none
def isSL : KD → Bool
  | .str => true
  | .slice _ => true
  | _ => false
theorem run_len {t : TypeId} {d : TypeDesc} {u : Value} {n : Nat} (hu : P.underlying t = some d) (h : (∃ s, u = .string s ∧ d = .string ∧ s.size = n) ∨ ∃ e a k, u = .slice a n k ∧ d = .slice e) (ty : TypeId) : (Builtin.len_ #[t] ty #[u]).run P w = .ok (.int .i64 n) w := by
  rcases h with ⟨s, rfl, rfl, rfl⟩ | ⟨e, a, k, rfl, rfl⟩
  · simp [Builtin.len_, run_underlying hu, goInt]
  · simp [Builtin.len_, run_underlying hu, goInt]
def evLen (T : TT) (t : TypeId) (x : AV) : Option AV := match T.at t with
  | some td => match td.kd, x with
    | .str, .str s => some (.int .i64 (.ofNat s.length))
    | .slice _, .slN => some (.int .i64 (.ofNat 0))
    | .slice _, .slE => some (.int .i64 (.ofNat 0))
    | .slice _, .sl _ _ _ n _ _ => some (.int .i64 (.ofNat n))
    | _, _ => none
  | none => none
include hT in
theorem evLen_ok {t ty : TypeId} {x r : AV} {u : Value} (h : evLen T t x = some r) (hx : VR E x u) : ∃ z, (Builtin.len_ #[t] ty #[u]).run P w = .ok z w ∧ VR E r z := by
  unfold evLen at h
  split at h
  · rename_i td htd
    split at h
    · rename_i s hk
      injection h with h; subst h
      simp only [VR] at hx; obtain ⟨rfl, _⟩ := hx
      exact ⟨_, run_len w (hT.str htd hk) (.inl ⟨_, rfl, rfl, mkS_size s⟩) ty, rfl⟩
    · rename_i e hk
      injection h with h; subst h
      simp only [VR] at hx; subst hx
      exact ⟨_, run_len w (hT.slice htd hk) (.inr ⟨_, _, _, rfl, rfl⟩) ty, rfl⟩
    · rename_i e hk
      injection h with h; subst h
      obtain ⟨a, k, rfl⟩ := hx
      exact ⟨_, run_len w (hT.slice htd hk) (.inr ⟨_, _, _, rfl, rfl⟩) ty, rfl⟩
    · rename_i e z r' o n c s hk
      injection h with h; subst h
      obtain ⟨en, k, _, _, rfl, _⟩ := hx
      exact ⟨_, run_len w (hT.slice htd hk) (.inr ⟨_, _, _, rfl, rfl⟩) ty, rfl⟩
    · cases h
  · cases h
def aMin (b : Bool) (x y : AV) : Option AV := match x, y with
  | .int k x, .int _ y => match b with
    | true => match ltI y x with
      | true => some (.int k y)
      | false => some (.int k x)
    | false => match ltI x y with
      | true => some (.int k y)
      | false => some (.int k x)
  | _, _ => none
theorem aMin_ok {b : Bool} {x y r : AV} {u v : Value} {ts : Array TypeId} {ty : TypeId} (h : aMin b x y = some r) (hx : VR E x u) (hy : VR E y v) : ∃ z, (match b with | true => Builtin.min_ ts ty #[u, v] | false => Builtin.max_ ts ty #[u, v]).run P w = .ok z w ∧ VR E r z := by
  unfold aMin at h
  split at h
  · rename_i k x' k' y'
    simp only [VR] at hx hy; subst hx; subst hy
    split at h
    · split at h
      · rename_i hl
        injection h with h; subst h
        rw [ltI_eq] at hl
        have hl : y' < x' := by simpa using hl
        exact ⟨.int k y', by simp [Builtin.min_, Builtin.min2, hl], rfl⟩
      · rename_i hl
        injection h with h; subst h
        rw [ltI_eq] at hl
        have hl : ¬ y' < x' := by simpa using hl
        exact ⟨.int k x', by simp [Builtin.min_, Builtin.min2, hl], rfl⟩
    · split at h
      · rename_i hl
        injection h with h; subst h
        rw [ltI_eq] at hl
        have hl : x' < y' := by simpa using hl
        exact ⟨.int k y', by simp [Builtin.max_, Builtin.max2, hl], rfl⟩
      · rename_i hl
        injection h with h; subst h
        rw [ltI_eq] at hl
        have hl : ¬ x' < y' := by simpa using hl
        exact ⟨.int k x', by simp [Builtin.max_, Builtin.max2, hl], rfl⟩
  · cases h
def aExtract (x : AV) (i : Nat) : Option AV := match x with
  | .tup vs => vs[i]?
  | _ => none
theorem aExtract_ok {x r : AV} {i : Nat} {u : Value} (h : aExtract x i = some r) (hx : VR E x u) : ∃ z, (Instr.extract u i).run P w = .ok z w ∧ VR E r z := by
  unfold aExtract at h
  split at h
  · obtain ⟨us, rfl, hus⟩ := hx
    obtain ⟨v, hv, hr⟩ := hus.at _ h
    exact ⟨v, by simp [Instr.extract, hv], hr⟩
  · cases h
/-- A value that is sure to be none. -/
def aNil (x : AV) : Option AV := match x with
  | .ptr _ _ _ => some x
  | .fn _ _ => some x
  | .yld _ => some x
  | .iface _ _ => some x
  | .map _ => some x
  | .mapN => some x
  | _ => none
end

/-! ### All of them -/
def prts (G : Nat) (s : Sl) : List (Nat × Operand) → Option (List (Nat × AV))
  | [] => some []
  | (i, x) :: r => match opd G s x, prts G s r with
    | some a, some as => some ((i, a) :: as)
    | _, _ => none
theorem prts_ok {G : Nat} {E : Env} {s : Sl} {n : Nat} {a : Act} (hA : AR G E s n a) : ∀ {xs : List (Nat × Operand)} {vs : List (Nat × AV)}, prts G s xs = some vs → PR E vs (xs.map fun (i, x) => (i, a.eval x))
  | [], vs, h => by simp only [prts, Option.some.injEq] at h; subst h; simp [PR]
  | (i, x) :: xs, vs, h => by
    simp only [prts] at h
    split at h
    · rename_i v vs' h1 h2
      injection h with h; subst h
      exact ⟨_, _, rfl, opd_ok hA h1, prts_ok hA h2⟩
    · cases h
def opdo (G : Nat) (s : Sl) : Option Operand → Option (Option AV)
  | none => some none
  | some x => match opd G s x with
    | some a => some (some a)
    | none => none
theorem opdo_ok {G : Nat} {E : Env} {s : Sl} {n : Nat} {a : Act} (hA : AR G E s n a) {x : Option Operand} {v : Option AV} (h : opdo G s x = some v) : VO E v (x.map a.eval) := by
  cases x with
  | none => simp only [opdo, Option.some.injEq] at h; subst h; rfl
  | some x =>
    simp only [opdo] at h
    split at h
    · rename_i b hb
      injection h with h; subst h
      exact ⟨_, rfl, opd_ok hA hb⟩
    · cases h
/-- Operations that look at no memory. -/
def evP (G : Nat) (T : TT) (s : Sl) (o : Op) : Option AV := match o with
  | .move x => opd G s x
  | .assign x => opd G s x
  | .pick c x y => match opd G s c with
    | some (.bool true) => opd G s x
    | some (.bool false) => opd G s y
    | _ => none
  | .nilCheck x => match opd G s x with
    | some a => aNil a
    | none => none
  | .binOp op t x y _ => match opd G s x, opd G s y with
    | some a, some b => aBin T op t x y a b
    | _, _ => none
  | .unOp op _ x => match opd G s x with
    | some a => aUn op a
    | none => none
  | .convert f d x => match opd G s x with
    | some a => aConv T f d a
    | none => none
  | .makeInterface t x => match opd G s x with
    | some a => aMkI T t a
    | none => none
  | .makeFunc (.func f) ⟨[]⟩ ⟨cs⟩ => match opds G s cs with
    | some as => some (.fn f as)
    | none => none
  | .slice t x lo hi mx => match opd G s x, opdo G s lo, opdo G s hi, opdo G s mx with
    | some a, some l, some h, some m => aSlice T t a l h m
    | _, _, _, _ => none
  | .fieldAddr t x f => match opd G s x with
    | some a => aFieldAddr T t a f
    | none => none
  | .field t x f => match opd G s x with
    | some a => aField T t a f
    | none => none
  | .indexAddr t x i => match opd G s x, opd G s i with
    | some a, some b => aIndexAddr T t a b
    | _, _ => none
  | .index t x i => match opd G s x, opd G s i with
    | some a, some b => aIndex T t a b
    | _, _ => none
  | .extract x i => match opd G s x with
    | some a => aExtract a i
    | none => none
  | .typeAssert x _ t ok => match opd G s x with
    | some a => aAssert T a t ok
    | none => none
  | .build t ⟨ps⟩ => match prts G s ps with
    | some as => aBuild T t as
    | none => none
  | .call ⟨.builtin .len, ⟨[x]⟩, ⟨[t]⟩⟩ => match opd G s x with
    | some a => evLen T t a
    | none => none
  | .call ⟨.builtin .min, ⟨[x, y]⟩, _⟩ => match opd G s x, opd G s y with
    | some a, some b => aMin true a b
    | _, _ => none
  | .call ⟨.builtin .max, ⟨[x, y]⟩, _⟩ => match opd G s x, opd G s y with
    | some a, some b => aMin false a b
    | _, _ => none
  | _ => none
theorem evP_ok {P : Program} {G : Nat} {T : TT} (hT : TOK P T) {E : Env} {s : Sl} {n : Nat} {a : Act} (hA : AR G E s n a) {o : Oper} {r : AV} (h : evP G T s o.op = some r) (w : World) :
    ∃ z, (execOp a.eval o).run P w = .ok (.value z) w ∧ VR E r z := by
  have lift : ∀ {S : Sem Value} {z : Value}, S.run P w = .ok z w → (do pure (.value (← S)) : Sem Next).run P w = .ok (.value z) w := fun {S z} hS => by simp only [Sem.run_bind, hS, Result.andThen_ok, Sem.run_pure]
  obtain ⟨dst, op, ty, pos, after, guard⟩ := o
  simp only at h
  unfold evP at h
  split at h
  · exact ⟨_, rfl, opd_ok hA h⟩
  · exact ⟨_, rfl, opd_ok hA h⟩
  · split at h
    · rename_i hc
      have := opd_ok hA hc
      simp only [VR] at this
      exact ⟨_, by simp [execOp, this, asBool], opd_ok hA h⟩
    · rename_i hc
      have := opd_ok hA hc
      simp only [VR] at this
      exact ⟨_, by simp [execOp, this, asBool], opd_ok hA h⟩
    · cases h
  · rename_i x
    split at h
    · rename_i v hv
      have hv' := opd_ok hA hv
      unfold aNil at h
      split at h
      · injection h with h; subst h
        have hv'' := hv'
        obtain ⟨e, _, _, he⟩ := hv'
        exact ⟨a.eval x, by simp [execOp, he], hv''⟩
      · injection h with h; subst h
        have hv'' := hv'
        obtain ⟨e, he, _⟩ := hv'
        exact ⟨a.eval x, by simp [execOp, he], hv''⟩
      · injection h with h; subst h
        have hv'' := hv'
        obtain ⟨e, _, he⟩ := hv'
        exact ⟨a.eval x, by simp [execOp, he], hv''⟩
      · injection h with h; subst h
        have hv'' := hv'
        obtain ⟨e, he, _⟩ := hv'
        exact ⟨a.eval x, by simp [execOp, he], hv''⟩
      · injection h with h; subst h
        have hv'' := hv'
        obtain ⟨e, _, he⟩ := hv'
        exact ⟨a.eval x, by simp [execOp, he], hv''⟩
      · injection h with h; subst h
        have hv'' := hv'
        simp only [VR] at hv'
        exact ⟨a.eval x, by simp [execOp, hv'], hv''⟩
      · cases h
    · cases h
  · split at h
    · rename_i u v hu hv
      obtain ⟨z, hz, hr⟩ := aBin_ok hT w h (opd_ok hA hu) (opd_ok hA hv)
      exact ⟨z, lift hz, hr⟩
    · cases h
  · split at h
    · rename_i u hu
      obtain ⟨z, hz, hr⟩ := aUn_ok w h (opd_ok hA hu)
      exact ⟨z, lift hz, hr⟩
    · cases h
  · split at h
    · rename_i u hu
      obtain ⟨z, hz, hr⟩ := aConv_ok hT w h (opd_ok hA hu)
      exact ⟨z, lift hz, hr⟩
    · cases h
  · split at h
    · rename_i u hu
      obtain ⟨z, hz, hr⟩ := aMkI_ok hT w h (opd_ok hA hu)
      exact ⟨z, lift hz, hr⟩
    · cases h
  · rename_i f cs
    split at h
    · rename_i as has
      injection h with h; subst h
      exact ⟨.func (.func f) #[] (cs.map a.eval).toArray, by simp [execOp, Instr.makeFunc], _, rfl, opds_ok hA has⟩
    · cases h
  · split at h
    · rename_i u l hh m hu hl hhh hm
      obtain ⟨z, hz, hr⟩ := aSlice_ok hT w h (opd_ok hA hu) (opdo_ok hA hl) (opdo_ok hA hhh) (opdo_ok hA hm)
      exact ⟨z, lift hz, hr⟩
    · cases h
  · split at h
    · rename_i u hu
      obtain ⟨z, hz, hr⟩ := aFieldAddr_ok hT w h (opd_ok hA hu)
      exact ⟨z, lift hz, hr⟩
    · cases h
  · split at h
    · rename_i u hu
      obtain ⟨z, hz, hr⟩ := aField_ok hT w h (opd_ok hA hu)
      exact ⟨z, lift hz, hr⟩
    · cases h
  · split at h
    · rename_i u v hu hv
      obtain ⟨z, hz, hr⟩ := aIndexAddr_ok hT w h (opd_ok hA hu) (opd_ok hA hv)
      exact ⟨z, lift hz, hr⟩
    · cases h
  · split at h
    · rename_i u v hu hv
      obtain ⟨z, hz, hr⟩ := aIndex_ok hT w h (opd_ok hA hu) (opd_ok hA hv)
      exact ⟨z, lift hz, hr⟩
    · cases h
  · split at h
    · rename_i u hu
      obtain ⟨z, hz, hr⟩ := aExtract_ok w h (opd_ok hA hu)
      exact ⟨z, lift hz, hr⟩
    · cases h
  · split at h
    · rename_i u hu
      obtain ⟨z, hz, hr⟩ := aAssert_ok hT w h (opd_ok hA hu)
      exact ⟨z, lift hz, hr⟩
    · cases h
  · split at h
    · rename_i as has
      obtain ⟨z, hz, hr⟩ := aBuild_ok hT w h (prts_ok hA has)
      refine ⟨z, ?_, hr⟩
      simp only [execOp, List.map_toArray]
      exact lift hz
    · cases h
  · split at h
    · rename_i u hu
      obtain ⟨z, hz, hr⟩ := evLen_ok (ty := ty) hT w h (opd_ok hA hu)
      refine ⟨z, ?_, hr⟩
      simp only [execOp, resolve, Sem.run_bind, Sem.run_pure, Result.andThen_ok, invoke, builtin, List.map_toArray, List.map_cons, List.map_nil, hz]
    · cases h
  · split at h
    · rename_i u v hu hv
      rename_i ts _ _
      obtain ⟨z, hz, hr⟩ := aMin_ok (P := P) (ts := ts) (ty := ty) w h (opd_ok hA hu) (opd_ok hA hv)
      refine ⟨z, ?_, hr⟩
      simp only at hz
      simp only [execOp, resolve, Sem.run_bind, Sem.run_pure, Result.andThen_ok, invoke, builtin, List.map_toArray, List.map_cons, List.map_nil, hz]
    · cases h
  · split at h
    · rename_i u v hu hv
      rename_i ts _ _
      obtain ⟨z, hz, hr⟩ := aMin_ok (P := P) (ts := ts) (ty := ty) w h (opd_ok hA hu) (opd_ok hA hv)
      refine ⟨z, ?_, hr⟩
      simp only at hz
      simp only [execOp, resolve, Sem.run_bind, Sem.run_pure, Result.andThen_ok, invoke, builtin, List.map_toArray, List.map_cons, List.map_nil, hz]
    · cases h
  · cases h
end Go.Ev
