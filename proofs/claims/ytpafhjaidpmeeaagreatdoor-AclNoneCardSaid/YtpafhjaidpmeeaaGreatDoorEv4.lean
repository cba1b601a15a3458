/- Words of this claim: the evaluator's operations that look at no memory: values, fields, elements, parts of slices and texts, comparisons. -/
import Derived.Test.YtpafhjaidpmeeaaGreatDoorEv3
set_option linter.unusedVariables false
set_option linter.unusedSimpArgs false
namespace Go.Ev
open Go.RowKit

/-- Globals stand where they stand. -/
def GE (G : Nat) (E : Env) : Prop := ∀ g, g < G → ∃ e, E g 0 = some e ∧ e.b = g ∧ e.sub = 0
theorem GE.mono {G : Nat} {E E' : Env} (h : E.le E') (k : GE G E) : GE G E' := fun g hg => let ⟨e, h1, h2⟩ := k g hg; ⟨e, h _ _ _ h1, h2⟩

def opd (G : Nat) (s : Sl) : Operand → Option AV
  | .tmp t => some (look s t)
  | .const v => ofV v
  | .global g => match Nat.blt g G with
    | true => some (.ptr g 0 0)
    | false => none
  | .func f => some (.fn f [])
/-- What is known of an activation. -/
structure AR (G : Nat) (E : Env) (s : Sl) (n : Nat) (a : Act) : Prop where
  sl : SR E s n a.tmps
  ge : GE G E
theorem opd_ok {G : Nat} {E : Env} {s : Sl} {n : Nat} {a : Act} (hA : AR G E s n a) {x : Operand} {v : AV} (h : opd G s x = some v) : VR E v (a.eval x) := by
  cases x with
  | tmp t => simp only [opd, Option.some.injEq] at h; subst h; exact hA.sl.2 t
  | const c => exact ofV_ok h
  | global g =>
    simp only [opd] at h
    split at h
    · rename_i hb
      injection h with h; subst h
      rw [blt_dec] at hb
      obtain ⟨e, h1, h2, h3⟩ := hA.ge g (by simpa using hb)
      exact ⟨e, h1, by omega, by rw [h2, h3]; rfl⟩
    · cases h
  | func f => simp only [opd, Option.some.injEq] at h; subst h; exact ⟨[], rfl, rfl⟩
def opds (G : Nat) (s : Sl) : List Operand → Option (List AV)
  | [] => some []
  | x :: xs => match opd G s x, opds G s xs with
    | some v, some vs => some (v :: vs)
    | _, _ => none
theorem opds_ok {G : Nat} {E : Env} {s : Sl} {n : Nat} {a : Act} (hA : AR G E s n a) : ∀ {xs : List Operand} {vs : List AV}, opds G s xs = some vs → VRs E vs (xs.map a.eval)
  | [], vs, h => by simp only [opds, Option.some.injEq] at h; subst h; simp [VRs]
  | x :: xs, vs, h => by
    simp only [opds] at h
    split at h
    · rename_i v vs' h1 h2
      injection h with h; subst h
      exact ⟨_, _, rfl, opd_ok hA h1, opds_ok hA h2⟩
    · cases h

section
variable {P : Program} {T : TT} (hT : TOK P T) {E : Env} (w : World)

/-! ### Comparisons -/
def scalarEq (T : TT) (t : TypeId) (x y : AV) : Option Bool := match T.at t with
  | none => none
  | some td => match td.kd, x, y with
    | .bool, .bool a, .bool b => some (a == b)
    | .int _, .int k a, .int k' b => match kEq k k' with
      | true => some (eqI a b)
      | false => none
    | .str, .str a, .str b => some (eqL a b)
    | _, _, _ => none
include hT in
theorem scalarEq_ok {t : TypeId} {x y : AV} {u v : Value} {r : Bool} (h : scalarEq T t x y = some r) (hx : VR E x u) (hy : VR E y v) (d : Nat) : (Op.equalIn (d + 1) t u v).run P w = .ok r w := by
  unfold scalarEq at h
  split at h
  · cases h
  · rename_i td htd
    split at h
    · rename_i a b hk
      injection h with h; subst h
      simp only [VR] at hx hy; subst hx; subst hy
      exact run_equalIn_bool' w d t a b (hT.bool htd hk)
    · rename_i k0 k a k' b hk
      split at h
      · rename_i hkk
        injection h with h; subst h
        have := kEq_eq hkk; subst this
        simp only [VR] at hx hy; subst hx; subst hy
        rw [eqI_eq]
        exact run_equalIn_int w d t _ _ a b (hT.int htd hk)
      · cases h
    · rename_i a b hk
      injection h with h; subst h
      simp only [VR] at hx hy
      obtain ⟨rfl, hx⟩ := hx
      obtain ⟨rfl, hy⟩ := hy
      rw [run_equalIn_string w d t _ _ (hT.str htd hk), mkS_eq hx hy]
    · cases h
def fieldsEq (T : TT) : List (TypeId × Nat × Bool) → List AV → List AV → Option Bool
  | [], _, _ => some true
  | (t, o, b) :: fs, xs, ys => match b with
    | true => none
    | false => match T.at t, xs[o]?, ys[o]? with
      | some td, some x, some y => match td.agg with
        | true => none
        | false => match scalarEq T t x y with
          | some true => fieldsEq T fs xs ys
          | some false => some false
          | none => none
      | _, _, _ => none
include hT in
theorem fieldsEq_ok (d : Nat) : ∀ {fs : List Field} {xs ys : List AV} {us vs : List Value} {r : Bool}, fieldsEq T (fs.map fun f => (f.type, f.offset, f.name == "_")) xs ys = some r → VRs E xs us → VRs E ys vs →
    (Op.eqFields (d + 1) us.toArray vs.toArray fs).run P w = .ok r w
  | [], xs, ys, us, vs, r, h, hx, hy => by simp only [List.map_nil, fieldsEq, Option.some.injEq] at h; subst h; simp [Op.eqFields]
  | f :: fs, xs, ys, us, vs, r, h, hx, hy => by
    simp only [List.map_cons, fieldsEq] at h
    split at h
    · cases h
    · rename_i hb
      split at h
      · rename_i td x y htd hxo hyo
        split at h
        · cases h
        · rename_i hag
          obtain ⟨u, hu, hxu⟩ := hx.at _ hxo
          obtain ⟨v, hv, hyv⟩ := hy.at _ hyo
          have hn : f.name ≠ "_" := by simpa using hb
          have hp : ∀ (cs : List Value) (c : Value), cs[f.offset]? = some c → (part f.type cs.toArray f.offset).run P w = .ok c w := fun cs c hc => by
            unfold part
            simp only [Sem.run_bind, hT.agg htd, hag, Result.andThen_ok, Bool.false_eq_true, if_false, List.getElem?_toArray, hc, Sem.run_pure]
          simp only [Op.eqFields, hn, ne_eq, not_false_eq_true, if_true, Sem.run_bind, hp _ _ hu, hp _ _ hv, Result.andThen_ok]
          split at h
          · rename_i hs
            rw [scalarEq_ok hT w hs hxu hyv d]
            simp only [Result.andThen_ok, Bool.not_true, Bool.false_eq_true, if_false]
            exact fieldsEq_ok d h hx hy
          · rename_i hs
            injection h with h; subst h
            rw [scalarEq_ok hT w hs hxu hyv d]
            simp
          · cases h
      · cases h

/-- Two values of a type, compared. -/
def aEq (T : TT) (t : TypeId) (x y : AV) : Option Bool := match T.at t with
  | none => none
  | some td => match td.kd, x, y with
    | .bool, .bool a, .bool b => some (a == b)
    | .ptr _, .ptrN, .ptrN => some true
    | .ptr _, .ptrN, .ptr _ _ _ => some false
    | .ptr _, .ptr _ _ _, .ptrN => some false
    | .slice _, .slN, .slN => some true
    | .slice _, .slN, .sl _ _ _ _ _ _ => some false
    | .slice _, .sl _ _ _ _ _ _, .slN => some false
    | .slice _, .slN, .slE => some false
    | .slice _, .slE, .slN => some false
    | .map _ _, .mapN, .mapN => some true
    | .map _ _, .mapN, .map _ => some false
    | .map _ _, .map _, .mapN => some false
    | .func, .fnN, .fnN => some true
    | .func, .fnN, .fn _ _ => some false
    | .func, .fn _ _, .fnN => some false
    | .iface, .ifN, .iface _ _ => some false
    | .iface, .iface _ _, .ifN => some false
    | .struct fs, .agg xs, .agg ys => match td.seq with
      | true => fieldsEq T fs xs ys
      | false => none
    | _, _, _ => none
theorem cmp_of {t : TypeId} {p q : Operand} {u v : Value} {r : Bool} {op : BinOp} (hg : ∀ op, (eqGuard op t p q u v).run P w = .ok () w) (h1 : binOp .eql t u v = do pure (.bool (← Op.equal t u v))) (h2 : binOp .neq t u v = do pure (.bool (!(← Op.equal t u v))))
    (he : ∀ d, (Op.equalIn (d + 1) t u v).run P w = .ok r w) (hop : op = .eql ∨ op = .neq) :
    (do eqGuard op t p q u v; binOp op t u v : Sem Value).run P w = .ok (.bool (match op with | .neq => !r | _ => r)) w := by
  have he' : (Op.equal t u v).run P w = .ok r w := he 9999
  rcases hop with rfl | rfl
  · simp only [Sem.run_bind, hg, Result.andThen_ok, h1, he', Sem.run_pure]
  · simp only [Sem.run_bind, hg, Result.andThen_ok, h2, he', Sem.run_pure]
include hT in
theorem aEq_ok {t : TypeId} {x y : AV} {u v : Value} {r : Bool} (h : aEq T t x y = some r) (hx : VR E x u) (hy : VR E y v) (op : BinOp) (hop : op = .eql ∨ op = .neq) (p q : Operand) :
    (do eqGuard op t p q u v; binOp op t u v : Sem Value).run P w = .ok (.bool (match op with | .neq => !r | _ => r)) w := by
  unfold aEq at h
  split at h
  · cases h
  · rename_i td htd
    split at h
    case h_1 =>
      rename_i a b hk
      injection h with h; subst h
      simp only [VR] at hx hy; subst hx; subst hy
      have := run_equalIn_bool' (P := P) w 9999 t a b (hT.bool htd hk)
      rcases hop with rfl | rfl <;> simp [eqGuard, binOp, Op.equal, Op.maxDepth, this]
    case h_18 =>
      rename_i fs xs ys hk
      split at h
      · rename_i hsq
        obtain ⟨us, rfl, hx⟩ := hx
        obtain ⟨vs, rfl, hy⟩ := hy
        obtain ⟨fs', hu, hfs⟩ := hT.struct htd hk
        obtain ⟨hg, hst⟩ := hT.seq htd hsq
        have hf : P.fieldsOf t = fs' := by simp [Program.fieldsOf, hu]
        have h1 := run_equalIn_struct (P := P) w 9999 t us.toArray vs.toArray (by rw [hf]; exact hu) hst
        rw [hf] at h1
        rw [← hfs] at h
        rw [fieldsEq_ok hT w 9998 h hx hy] at h1
        simp only [Sem.run_bind, run_eqGuard_agg w op t p q _ _ hg, Result.andThen_ok]
        rcases hop with rfl | rfl
        · rw [run_eql_struct, h1]; rfl
        · rw [run_neq_struct, h1]; rfl
      · cases h
    case h_19 => cases h
    all_goals
      injection h with h; subst h
      rename_i hk
      simp only [VR] at hx hy
      first
        | (subst hx; subst hy)
        | (subst hx; obtain ⟨_, _, _, rfl⟩ := hy)
        | (subst hy; obtain ⟨_, _, _, rfl⟩ := hx)
        | (subst hx; obtain ⟨_, _, _, _, rfl, _⟩ := hy)
        | (subst hy; obtain ⟨_, _, _, _, rfl, _⟩ := hx)
        | (subst hx; obtain ⟨_, _, rfl⟩ := hy)
        | (subst hy; obtain ⟨_, _, rfl⟩ := hx)
        | (subst hx; obtain ⟨_, rfl, _⟩ := hy)
        | (subst hy; obtain ⟨_, rfl, _⟩ := hx)
      refine cmp_of w (fun op => by cases op <;> simp [eqGuard]) rfl rfl (fun d => ?_) hop
      first
        | (have hu := hT.ptr htd hk; simp [Op.equalIn, run_underlying hu]; done)
        | (have hu := hT.slice htd hk; simp [Op.equalIn, run_underlying hu]; done)
        | (have hu := hT.map htd hk; simp [Op.equalIn, run_underlying hu]; done)
        | (obtain ⟨_, _, _, hu⟩ := hT.func htd hk; simp [Op.equalIn, run_underlying hu]; done)
        | (obtain ⟨_, hu⟩ := hT.iface htd hk; simp [Op.equalIn, run_underlying hu]; done)
/-- A nil interface value against the literal nil. -/
def isConst : Operand → Bool
  | .const _ => true
  | _ => false
def aBin (T : TT) (op : BinOp) (t : TypeId) (p q : Operand) (x y : AV) : Option AV := match x, y with
  | .int k a, .int k' b => match op with
    | .shl => aShift .shl k a b
    | .shr => aShift .shr k a b
    | op => match kEq k k' with
      | true => aInt op k a b
      | false => none
  | .str a, .str b => aStr op a b
  | .ifN, .ifN => match isConst p || isConst q, T.at t with
    | true, some td => match td.kd, op with
      | .iface, .eql => some (.bool true)
      | .iface, .neq => some (.bool false)
      | _, _ => none
    | _, _ => none
  | x, y => match op with
    | .eql => match aEq T t x y with
      | some r => some (.bool r)
      | none => none
    | .neq => match aEq T t x y with
      | some r => some (.bool (!r))
      | none => none
    | _ => none
include hT in
theorem aBin_ok {op : BinOp} {t : TypeId} {p q : Operand} {x y r : AV} {u v : Value} (h : aBin T op t p q x y = some r) (hx : VR E x u) (hy : VR E y v) :
    ∃ z, (do eqGuard op t p q u v; binOp op t u v : Sem Value).run P w = .ok z w ∧ VR E r z := by
  unfold aBin at h
  split at h
  · rename_i k a k' b
    simp only [VR] at hx hy; subst hx; subst hy
    have hg : (eqGuard op t p q (.int k a) (.int k' b)).run P w = .ok () w := by cases op <;> simp [eqGuard]
    simp only [Sem.run_bind, hg, Result.andThen_ok]
    split at h
    · simpa only [binOp] using aShift_ok (yk := k') h P w
    · simpa only [binOp] using aShift_ok (yk := k') h P w
    · rename_i hs1 hs2
      split at h
      · rename_i hk
        have := kEq_eq hk; subst this
        obtain ⟨z, hz, hr⟩ := aInt_ok h ⟨hs1, hs2⟩ P w
        refine ⟨z, ?_, hr⟩
        rw [← hz]
        cases op <;> first | (exact absurd rfl hs1) | (exact absurd rfl hs2) | simp [binOp]
      · cases h
  · rename_i a b
    simp only [VR] at hx hy
    obtain ⟨rfl, hx⟩ := hx
    obtain ⟨rfl, hy⟩ := hy
    have hg : (eqGuard op t p q (.string (mkS a)) (.string (mkS b))).run P w = .ok () w := by cases op <;> simp [eqGuard]
    simp only [Sem.run_bind, hg, Result.andThen_ok]
    obtain ⟨z, hz, hr⟩ := aStr_ok hx hy h P w
    refine ⟨z, ?_, hr⟩
    rw [← hz]
    cases op <;> simp [binOp]
  · simp only [VR] at hx hy; subst hx; subst hy
    split at h
    · rename_i td hc htd
      have hg : ∀ op, (eqGuard op t p q .nilIface .nilIface).run P w = .ok () w := fun op => by
        rw [Bool.or_eq_true] at hc
        rcases hc with hc | hc
        · cases p <;> first | (cases op <;> simp [eqGuard]; done) | (cases hc; done)
        · cases q <;> first | (cases op <;> simp [eqGuard]; done) | (cases hc; done)
      split at h
      · rename_i hk
        injection h with h; subst h
        obtain ⟨_, hu⟩ := hT.iface htd hk
        exact ⟨_, cmp_of (r := true) w hg rfl rfl (fun d => by simp [Op.equalIn, run_underlying hu]) (.inl rfl), rfl⟩
      · rename_i hk
        injection h with h; subst h
        obtain ⟨_, hu⟩ := hT.iface htd hk
        exact ⟨_, cmp_of (r := true) w hg rfl rfl (fun d => by simp [Op.equalIn, run_underlying hu]) (.inr rfl), rfl⟩
      · cases h
    · cases h
  · split at h
    · split at h
      · rename_i r' hr
        injection h with h; subst h
        exact ⟨_, aEq_ok hT w hr hx hy .eql (.inl rfl) p q, rfl⟩
      · cases h
    · split at h
      · rename_i r' hr
        injection h with h; subst h
        exact ⟨_, aEq_ok hT w hr hx hy .neq (.inr rfl) p q, rfl⟩
      · cases h
    · cases h

def aUn (op : UnOp) (x : AV) : Option AV := match op, x with
  | .neg, .int k n => some (.int k (wrapF k (0 - n)))
  | .not, .bool b => some (.bool (!b))
  | _, _ => none
theorem aUn_ok {op : UnOp} {x r : AV} {u : Value} (h : aUn op x = some r) (hx : VR E x u) : ∃ z, (Op.unary op u).run P w = .ok z w ∧ VR E r z := by
  unfold aUn at h
  split at h
  · injection h with h; subst h
    simp only [VR] at hx; subst hx
    exact ⟨_, rfl, by simp only [VR, wrapF_eq]⟩
  · injection h with h; subst h
    simp only [VR] at hx; subst hx
    exact ⟨_, rfl, rfl⟩
  · cases h

/-! ### Fields, elements -/
def aFieldAddr (T : TT) (t : TypeId) (x : AV) (f : Nat) : Option AV := match x, T.at t with
  | .ptr z r o, some td => match td.kd with
    | .struct fs => match fs[f]? with
      | some (ft, off, _) => match T.at ft with
        | some fd => match fd.size with
          | 0 => none
          | _ + 1 => some (.ptr z r (o + off))
        | none => none
      | none => none
    | _ => none
  | _, _ => none
theorem add_off {b o s n : Nat} (h : s ≤ o) : (⟨b, o - s, none⟩ : Addr).add n = ⟨b, o + n - s, none⟩ := by
  unfold Addr.add
  split
  · rename_i hn; subst hn; rfl
  · simp only [Addr.mk.injEq, true_and, and_true]; omega
include hT in
theorem aFieldAddr_ok {t f : Nat} {x r : AV} {u : Value} (h : aFieldAddr T t x f = some r) (hx : VR E x u) : ∃ z, (Instr.fieldAt t u f).run P w = .ok z w ∧ VR E r z := by
  unfold aFieldAddr at h
  split at h
  · rename_i z r o td htd
    split at h
    · rename_i fs hk
      split at h
      · rename_i ft off _ hf
        split at h
        · rename_i fd hfd
          split at h
          · cases h
          · rename_i m hm
            injection h with h; subst h
            obtain ⟨fs', hu, hfs⟩ := hT.struct htd hk
            obtain ⟨e, he, hs, rfl⟩ := hx
            obtain ⟨fl, hfl, h1, h2⟩ : ∃ fl, fs'[f]? = some fl ∧ fl.type = ft ∧ fl.offset = off := by
              rw [← hfs, List.getElem?_map, Option.map_eq_some_iff] at hf
              obtain ⟨fl, hfl, h1⟩ := hf
              simp only [Prod.mk.injEq] at h1
              exact ⟨fl, by simpa using hfl, h1.1, h1.2.1⟩
            have hsz := hT.size hfd w
            rw [hm] at hsz
            subst h1
            refine ⟨.pointer (some ((⟨e.b, o - e.sub, none⟩ : Addr).add off)), ?_, e, he, by omega, by rw [add_off hs]⟩
            simp [Instr.fieldAt, run_underlying hu, hfl, Instr.sureAddr, fieldPlace, hsz, h2]
        · cases h
      · cases h
    · cases h
  · cases h
def sub (cs : List AV) (o n : Nat) : List AV := (cs.drop o).take n
/-- A part of cells. -/
def aPart (td : TD) (cs : List AV) (o : Nat) : Option AV := match td.agg with
  | true => some (.agg (sub cs o td.size))
  | false => cs[o]?
include hT in
theorem aPart_ok {t : TypeId} {td : TD} (htd : T.at t = some td) {cs : List AV} {us : List Value} {o : Nat} {r : AV} (h : aPart td cs o = some r) (hx : VRs E cs us) : ∃ z, (part t us.toArray o).run P w = .ok z w ∧ VR E r z := by
  unfold aPart at h
  unfold part
  simp only [Sem.run_bind, hT.agg htd, Result.andThen_ok]
  split at h
  · rename_i ha
    injection h with h; subst h
    refine ⟨.agg (us.toArray.extract o (o + td.size)), by simp [ha, hT.size htd], (us.drop o).take td.size, by simp, (hx.drop o).take _⟩
  · rename_i ha
    obtain ⟨u, hu, hr⟩ := hx.at _ h
    refine ⟨u, by simp [ha, hu], hr⟩
def aField (T : TT) (t : TypeId) (x : AV) (f : Nat) : Option AV := match x, T.at t with
  | .agg cs, some td => match td.kd with
    | .struct fs => match fs[f]? with
      | some (ft, off, _) => match T.at ft with
        | some fd => aPart fd cs off
        | none => none
      | none => none
    | _ => none
  | _, _ => none
include hT in
theorem aField_ok {t f : Nat} {x r : AV} {u : Value} (h : aField T t x f = some r) (hx : VR E x u) : ∃ z, (Instr.field t u f).run P w = .ok z w ∧ VR E r z := by
  unfold aField at h
  split at h
  · rename_i cs td htd
    split at h
    · rename_i fs hk
      split at h
      · rename_i ft off _ hf
        split at h
        · rename_i fd hfd
          obtain ⟨fs', hu, hfs⟩ := hT.struct htd hk
          obtain ⟨us, rfl, hx⟩ := hx
          obtain ⟨fl, hfl, h1, h2⟩ : ∃ fl, fs'[f]? = some fl ∧ fl.type = ft ∧ fl.offset = off := by
            rw [← hfs, List.getElem?_map, Option.map_eq_some_iff] at hf
            obtain ⟨fl, hfl, h1⟩ := hf
            simp only [Prod.mk.injEq] at h1
            exact ⟨fl, by simpa using hfl, h1.1, h1.2.1⟩
          subst h1; subst h2
          obtain ⟨z, hz, hr⟩ := aPart_ok hT w hfd h hx
          exact ⟨z, by simp [Instr.field, run_underlying hu, hfl, asAgg, hz], hr⟩
        · cases h
      · cases h
    · cases h
  · cases h
/-- An index within bounds. -/
def inB (i : Int) (n : Nat) : Option Nat := match i with
  | .ofNat m => match Nat.blt m n with
    | true => some m
    | false => none
  | .negSucc _ => none
theorem inB_ok {i : Int} {n m : Nat} (h : inB i n = some m) : 0 ≤ i ∧ i < n ∧ i.toNat = m ∧ m < n := by
  cases i with
  | negSucc k => cases h
  | ofNat k =>
    simp only [inB] at h
    split at h
    · rename_i hb
      injection h with h; subst h
      rw [blt_dec] at hb
      have : k < n := by simpa using hb
      exact ⟨by simp, by simpa using this, rfl, this⟩
    · cases h
def aIndexAddr (T : TT) (t : TypeId) (x i : AV) : Option AV := match x, i, T.at t with
  | .ptr z r o, .int _ i, some td => match td.kd with
    | .array n e => match T.at e, inB i n with
      | some ed, some m => some (.ptr z r (o + m * ed.size))
      | _, _ => none
    | _ => none
  | .sl z r o n _ _, .int _ i, some td => match td.kd with
    | .slice e => match T.at e, inB i n with
      | some ed, some m => some (.ptr z r (o + m * ed.size))
      | _, _ => none
    | _ => none
  | _, _, _ => none
include hT in
theorem aIndexAddr_ok {t : TypeId} {x i r : AV} {u v : Value} (h : aIndexAddr T t x i = some r) (hx : VR E x u) (hi : VR E i v) : ∃ z, (Instr.indexAt t u v).run P w = .ok z w ∧ VR E r z := by
  unfold aIndexAddr at h
  split at h
  · rename_i z r o k i td htd
    split at h
    · rename_i n e hk
      split at h
      · rename_i ed m hed hm
        injection h with h; subst h
        obtain ⟨h1, h2, h3, h4⟩ := inB_ok hm
        obtain ⟨en, he, hs, rfl⟩ := hx
        simp only [VR] at hi; subst hi
        have hu := hT.array htd hk
        refine ⟨.pointer (some ((⟨en.b, o - en.sub, none⟩ : Addr).add (m * ed.size))), ?_, en, he, by omega, by rw [add_off hs]⟩
        simp [Instr.indexAt, asIntOf, run_underlying hu, Instr.sureAddr, h1, h2, hT.size hed, h3]
      · cases h
    · cases h
  · rename_i z r o n c s k i td htd
    split at h
    · rename_i e hk
      split at h
      · rename_i ed m hed hm
        injection h with h; subst h
        obtain ⟨h1, h2, h3, h4⟩ := inB_ok hm
        obtain ⟨en, kk, he, hs, rfl, _⟩ := hx
        simp only [VR] at hi; subst hi
        have hu := hT.slice htd hk
        refine ⟨.pointer (some ((⟨en.b, o - en.sub, none⟩ : Addr).add (m * ed.size))), ?_, en, he, by omega, by rw [add_off hs]⟩
        simp [Instr.indexAt, asIntOf, run_underlying hu, h1, h2, hT.size hed, h3]
      · cases h
    · cases h
  · cases h
def aIndex (T : TT) (t : TypeId) (x i : AV) : Option AV := match x, i, T.at t with
  | .str s, .int _ i, some td => match td.kd, inB i s.length with
    | .str, some m => match s[m]? with
      | some b => some (.int .u8 b)
      | none => none
    | _, _ => none
  | .agg cs, .int _ i, some td => match td.kd with
    | .array n e => match T.at e, inB i n with
      | some ed, some m => aPart ed cs (m * ed.size)
      | _, _ => none
    | _ => none
  | _, _, _ => none
include hT in
theorem aIndex_ok {t : TypeId} {x i r : AV} {u v : Value} (h : aIndex T t x i = some r) (hx : VR E x u) (hi : VR E i v) : ∃ z, (Instr.index t u v).run P w = .ok z w ∧ VR E r z := by
  unfold aIndex at h
  split at h
  · rename_i s k i td htd
    split at h
    · rename_i m hk hm
      split at h
      · rename_i b hb
        injection h with h; subst h
        obtain ⟨h1, h2, h3, h4⟩ := inB_ok hm
        simp only [VR] at hi hx; subst hi
        obtain ⟨rfl, hx⟩ := hx
        have hu := hT.str htd hk
        have hb' : b < 256 := hx b (List.mem_of_getElem? hb)
        have hg : (mkS s)[i.toNat]? = some (UInt8.ofNat b) := by
          have hlt : m < (mkS s).size := by rw [mkS_size]; exact h4
          rw [h3, getElem?_pos (mkS s) m hlt]
          have : (mkS s)[m] = (mkS s).data[m]'hlt := rfl
          rw [this]
          simp only [mkS, List.getElem_toArray, List.getElem_map, Option.some.injEq]
          congr 1
          rw [List.getElem?_eq_getElem h4] at hb
          exact Option.some.inj hb
        refine ⟨.int .u8 b, ?_, rfl⟩
        have : (UInt8.ofNat b).toNat = b := by simp [UInt8.toNat_ofNat', Nat.mod_eq_of_lt hb']
        simp [Instr.index, asIntOf, run_underlying hu, h1, hg, this]
      · cases h
    · cases h
  · rename_i cs k i td htd
    split at h
    · rename_i n e hk
      split at h
      · rename_i ed m hed hm
        obtain ⟨h1, h2, h3, h4⟩ := inB_ok hm
        simp only [VR] at hi; subst hi
        obtain ⟨us, rfl, hx⟩ := hx
        have hu := hT.array htd hk
        obtain ⟨z, hz, hr⟩ := aPart_ok hT w hed h hx
        refine ⟨z, ?_, hr⟩
        simp [Instr.index, asIntOf, run_underlying hu, h1, h2, h3, hT.size hed, hz]
      · cases h
    · cases h
  · cases h
end
end Go.Ev
