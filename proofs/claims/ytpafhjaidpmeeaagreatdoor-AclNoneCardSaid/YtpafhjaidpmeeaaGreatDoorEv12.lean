/- Words of this claim: the evaluator's operations, all of them; functions without a body. -/
import Derived.Test.YtpafhjaidpmeeaaGreatDoorEv11
import Derived.Laws.Externs
import Derived.Lib.Bytealg
import GoSem.Extern.MapsClone
import GoSem.Extern.BytealgCount
import GoSem.Extern.BytealgIndexByte
set_option linter.unusedVariables false
set_option linter.unusedSimpArgs false
namespace Go.Ev
open Go.RowKit

/-- Functions without a body. -/
inductive XK where
  | idx
  | cnt
  | clone
def xfn : XK → Array Value → Sem Value
  | .idx => Extern.BytealgIndexByte.indexByte
  | .cnt => Extern.BytealgCount.count
  | .clone => Extern.MapsClone.clone
inductive FI where
  | code (c : Code) (n : Nat) (rs : List ResultVar)
  | ext (k : XK)
abbrev FT := Tr (Option FI)
def FT.at (F : FT) (f : FuncId) : Option FI := match F.get f with
  | some x => x
  | none => none
def FIok (P : Program) (f : FuncId) : FI → Prop
  | .code c n rs => ∃ fn, P.funcs[f]? = some fn ∧ (fn.name == "runtime.NumGoroutine") = false ∧ fn.body = some c ∧ fn.ntmps = n ∧ fn.results.toList = rs
  | .ext k => ∃ fn, P.funcs[f]? = some fn ∧ (fn.name == "runtime.NumGoroutine") = false ∧ fn.body.isNone = true ∧ Extern.findNext fn = none ∧ Extern.find fn = some (xfn k)
def FOK (P : Program) (F : FT) : Prop := ∀ f fi, F.at f = some fi → FIok P f fi

/-- What an operation gives. -/
inductive AO where
  | val (v : AV) (h : H)
  | skip (h : H)
  | call (c : Code) (n : Nat) (rs : List ResultVar) (f : FuncId) (args : List AV)
  | round (z : Nat) (args : List AV)
  | panic (v : AV)
  | defer (d : AD)
def ORes (P : Program) (E : Env) (h : H) (w : World) : AO → Result Next → Prop
  | .val v h', r => ∃ z w' E', r = .ok (.value z) w' ∧ Stp E h w E' h' w' ∧ VR E' v z
  | .skip h', r => ∃ w' E', r = .ok .skip w' ∧ Stp E h w E' h' w'
  | .call c n rs f args, r => FIok P f (.code c n rs) ∧ ∃ us, r = .ok (.enter f us.toArray) w ∧ VRs E args us
  | .round z args, r => ∃ e us, E z 0 = some e ∧ VRs E args us ∧ r = (Instr.yield e.b us.toArray).run P w
  | .panic v, r => ∃ u, r = .halt (.panic u) w ∧ VR E v u
  | .defer d, r => ∃ u, r = .ok (.defer u) w ∧ DR E d u

/-- Functions without a body, on abstract values. -/
def idxL (c : Nat) : List Nat → Nat → Int
  | [], _ => .negSucc 0
  | b :: r, i => match Nat.beq b c with
    | true => .ofNat i
    | false => idxL c r (i + 1)
def cntL (c : Nat) : List Nat → Nat → Nat
  | [], n => n
  | b :: r, n => match Nat.beq b c with
    | true => cntL c r (n + 1)
    | false => cntL c r n
def evX (k : XK) (h : H) (args : List AV) : Option (AV × H) := match k, args with
  | .idx, [.str s, .int .u8 (.ofNat c)] => match Nat.blt c 256 with
    | true => some (.int .i64 (idxL c s 0), h)
    | false => none
  | .cnt, [.str s, .int .u8 (.ofNat c)] => match Nat.blt c 256 with
    | true => some (.int .i64 (.ofNat (cntL c s 0)), h)
    | false => none
  | .clone, [.iface t (.map z)] => match h.t.get z with
    | some (.mp es c) => some (.iface t (.map h.nx), h.new (.mp es c))
    | _ => none
  | _, _ => none
section
variable {P : Program} {E : Env} {h : H} {w : World}
theorem idx_find (c : Nat) (hc : c < 256) : ∀ (s pre : List Nat), (∀ x ∈ s, x < 256) → (∀ x ∈ pre, x < 256) →
    (match (List.range' pre.length s.length).find? fun i => (mkS (pre ++ s))[i]! == UInt8.ofNat c with
    | some i => Int.ofNat i
    | none => -1) = idxL c s pre.length
  | [], pre, _, _ => by simp [idxL]
  | b :: r, pre, hs, hp => by
    have hb := hs b (by simp)
    have hg : (mkS (pre ++ b :: r))[pre.length]! = UInt8.ofNat b := by
      have hlt : pre.length < (mkS (pre ++ b :: r)).size := by rw [mkS_size]; simp
      rw [getElem!_pos (mkS (pre ++ b :: r)) pre.length hlt]
      have : (mkS (pre ++ b :: r))[pre.length] = (mkS (pre ++ b :: r)).data[pre.length]'hlt := rfl
      rw [this]
      simp [mkS]
    have heq : (UInt8.ofNat b == UInt8.ofNat c) = Nat.beq b c := by
      rw [Bool.eq_iff_iff, beq_iff_eq, Nat.beq_eq, ← UInt8.toNat_inj]
      simp [UInt8.toNat_ofNat', Nat.mod_eq_of_lt hb, Nat.mod_eq_of_lt hc]
    simp only [List.length_cons, List.range'_succ, List.find?_cons, hg, heq, idxL]
    cases hbc : Nat.beq b c with
    | true => rfl
    | false =>
      have ih := idx_find c hc r (pre ++ [b]) (fun x hx => hs x (by simp [hx])) (fun x hx => by
        rcases List.mem_append.1 hx with hx | hx
        · exact hp x hx
        · simp at hx; omega)
      simp only [List.length_append, List.length_singleton, List.append_assoc, List.singleton_append] at ih
      exact ih
theorem cnt_fold (c : Nat) (hc : c < 256) : ∀ (s : List Nat) (n : Nat), (∀ x ∈ s, x < 256) → (s.map UInt8.ofNat).foldl (fun (n : Int) x => if x == UInt8.ofNat c then n + 1 else n) (n : Int) = (cntL c s n : Nat)
  | [], n, _ => rfl
  | b :: r, n, hs => by
    have hb := hs b (by simp)
    have heq : (UInt8.ofNat b == UInt8.ofNat c) = Nat.beq b c := by
      rw [Bool.eq_iff_iff, beq_iff_eq, Nat.beq_eq, ← UInt8.toNat_inj]
      simp [UInt8.toNat_ofNat', Nat.mod_eq_of_lt hb, Nat.mod_eq_of_lt hc]
    have ih := fun n => cnt_fold c hc r n (fun x hx => hs x (by simp [hx]))
    simp only [List.map_cons, List.foldl_cons, heq, cntL]
    cases hbc : Nat.beq b c with
    | true => exact ih (n + 1)
    | false => exact ih n
theorem evX_ok (st : Sat E h w) {k : XK} {args : List AV} {us : List Value} {v : AV} {h' : H} (hk : evX k h args = some (v, h')) (ha : VRs E args us) : ∃ z w' E', (xfn k us.toArray).run P w = .ok z w' ∧ Stp E h w E' h' w' ∧ VR E' v z := by
  unfold evX at hk
  split at hk
  · rename_i s c
    split at hk
    · rename_i hc
      rw [blt_dec] at hc
      have hc : c < 256 := by simpa using hc
      simp only [Option.some.injEq, Prod.mk.injEq] at hk
      obtain ⟨rfl, rfl⟩ := hk
      obtain ⟨u1, r1, rfl, h1, u2, r2, rfl, h2, h3⟩ := ha
      simp only [VR, VRs] at h1 h2 h3
      obtain ⟨rfl, hs⟩ := h1
      subst h2; subst h3
      refine ⟨.int .i64 (idxL c s 0), w, E, ?_, Stp.refl st, rfl⟩
      have := idx_find c hc s [] hs (by simp)
      simp only [List.length_nil, List.nil_append] at this
      rw [← this]
      have hr : List.range (mkS s).size = List.range' 0 s.length := by rw [mkS_size, List.range_eq_range']
      have hd : Extern.BytealgIndexByte.indexByte [Value.string (mkS s), .int .u8 (.ofNat c)].toArray = (match (List.range (mkS s).size).find? fun i => (mkS s)[i]! == UInt8.ofNat c with
        | some i => pure (goInt i)
        | none => pure (goInt (-1)) : Sem Value) := rfl
      simp only [xfn, hd, hr]
      split <;> rfl
    · cases hk
  · rename_i s c
    split at hk
    · rename_i hc
      rw [blt_dec] at hc
      have hc : c < 256 := by simpa using hc
      simp only [Option.some.injEq, Prod.mk.injEq] at hk
      obtain ⟨rfl, rfl⟩ := hk
      obtain ⟨u1, r1, rfl, h1, u2, r2, rfl, h2, h3⟩ := ha
      simp only [VR, VRs] at h1 h2 h3
      obtain ⟨rfl, hs⟩ := h1
      subst h2; subst h3
      refine ⟨.int .i64 (.ofNat (cntL c s 0)), w, E, ?_, Stp.refl st, rfl⟩
      have := cnt_fold c hc s 0 hs
      have hd : Extern.BytealgCount.count [Value.string (mkS s), .int .u8 (.ofNat c)].toArray = (pure (goInt ((mkS s).foldl (fun (n : Int) x => if x == UInt8.ofNat c then n + 1 else n) (0 : Nat))) : Sem Value) := rfl
      simp only [xfn, hd, Sem.run_pure, goInt]
      rw [Lib.foldl_data]
      simp only [mkS, List.toList_toArray, this]
      rfl
    · cases hk
  · rename_i t z
    split at hk
    · rename_i es c hz
      simp only [Option.some.injEq, Prod.mk.injEq] at hk
      obtain ⟨rfl, rfl⟩ := hk
      obtain ⟨u1, r1, rfl, ⟨u, rfl, e, he, rfl⟩, h3⟩ := ha
      simp only [VRs] at h3; subst h3
      obtain ⟨e', ob, g1, g2, ms, rfl, g3⟩ := st.obj z _ hz
      simp only [OB.ver] at g1
      rw [he] at g1; injection g1 with g1; subst g1
      have hst := Stp.new (w' := w.alloc (.map ms.toArray c)) (o := .mp es c) (e := ⟨w.heap.size, 0, 0, 0⟩) (ob := .map ms.toArray c) st rfl rfl rfl rfl rfl rfl ⟨ms, rfl, g3.mono (Env.upd_le st.no0)⟩
      refine ⟨.iface t (.map (some w.heap.size)), _, _, ?_, hst, _, rfl, _, Env.upd_eq _ _ _ _, rfl⟩
      have : Extern.MapsClone.clone [Value.iface t (.map (some e.b))].toArray = (getObj e.b >>= fun o => match o with
        | .map entries clock => (newObj (.map entries clock) >>= fun n => pure (.iface t (.map (some n))))
        | _ => stuck "maps.clone: a map expected") := rfl
      simp only [xfn, this, Sem.run_bind, run_getMap g2, Result.andThen_ok, run_newObj, Sem.run_pure]
      rfl
    · cases hk
  · cases hk
end

/-- The rest of the evaluator's table: what it is told of the program. -/
structure Pg where
  G : Nat
  T : TT
  F : FT
structure POK (P : Program) (g : Pg) : Prop where
  T : TOK P g.T
  F : FOK P g.F
  mixed : P.follows .mixedOrders = true

def ofVal : Option AV → H → Option AO
  | some v, h => some (.val v h)
  | none, _ => none
def ofNew : Option (AV × OB) → H → Option AO
  | some (v, o), h => some (.val v (h.new o))
  | none, _ => none
def ofPair : Option (AV × H) → Option AO
  | some (v, h) => some (.val v h)
  | none => none
def ofSkip : Option H → Option AO
  | some h => some (.skip h)
  | none => none
/-- A call of a value. -/
def evCall (g : Pg) (h : H) (f : AV) (args : List AV) : Option AO := match f with
  | .fn f caps => match g.F.at f with
    | some (.code c n rs) => some (.call c n rs f (args ++ caps))
    | some (.ext k) => ofPair (evX k h (args ++ caps))
    | none => none
  | .yld z => some (.round z args)
  | _ => none
/-- Operations that look at memory, or turn it, or call. -/
def evM (g : Pg) (s : Sl) (h : H) (o : Op) : Option AO := match o with
  | .load t x => match opd g.G s x with
    | some a => ofVal (aLoad g.T h t a) h
    | none => none
  | .store t x y => match opd g.G s x, opd g.G s y with
    | some a, some b => ofSkip (aStore g.T h t a b)
    | _, _ => none
  | .lookup t x y ok => match opd g.G s x, opd g.G s y with
    | some a, some b => ofVal (aLookup g.T h t a b ok) h
    | _, _ => none
  | .mapUpdate t x y z => match opd g.G s x, opd g.G s y, opd g.G s z with
    | some a, some b, some c => ofSkip (aMapUpd g.T h t a b c)
    | _, _, _ => none
  | .insert t x y z => match opd g.G s x, opd g.G s y, opd g.G s z with
    | some a, some b, some c => ofSkip (aMapUpd g.T h t a b c)
    | _, _, _ => none
  | .alloc t => ofNew (aAlloc g.T h.nx t) h
  | .box t x => match opd g.G s x with
    | some a => ofNew (some (aBox h.nx t a)) h
    | none => none
  | .buildSlice t n ⟨ps⟩ => match prts g.G s ps with
    | some as => ofNew (aBuildSlice g.T h.nx t n as) h
    | none => none
  | .makeSlice t x y => match opd g.G s x, opd g.G s y with
    | some a, some b => ofNew (aMakeSlice g.T h.nx t a b) h
    | _, _ => none
  | .makeMap _ none => ofNew (some (.map h.nx, .mp [] 0)) h
  | .convert f d x => match opd g.G s x with
    | some a => ofVal (aBytesStr g.T h f d a) h
    | none => none
  | .range t x => match opd g.G s x with
    | some a => ofNew (aRange g.T h t a) h
    | none => none
  | .next x b => match opd g.G s x with
    | some a => ofPair (aNext h a b)
    | none => none
  | .panic x => match opd g.G s x with
    | some (.iface t v) => some (.panic (.iface t v))
    | _ => none
  | .defer ⟨.value f, ⟨xs⟩, _⟩ => match opd g.G s f, opds g.G s xs with
    | some (.fn f caps), some as => some (.defer (.call (.fn f caps) as))
    | _, _ => none
  | .call ⟨.value f, ⟨xs⟩, _⟩ => match opd g.G s f, opds g.G s xs with
    | some f, some as => evCall g h f as
    | _, _ => none
  | .call ⟨.builtin .append, ⟨[x, y]⟩, ⟨[t, u]⟩⟩ => match opd g.G s x, opd g.G s y with
    | some a, some b => ofPair (aAppend g.T h t u a b)
    | _, _ => none
  | .call ⟨.builtin .copy, ⟨[x, y]⟩, ⟨[t, _]⟩⟩ => match opd g.G s x, opd g.G s y with
    | some a, some b => ofPair (aCopy g.T h t a b)
    | _, _ => none
  | .call ⟨.builtin .clear, ⟨[x]⟩, ⟨[t]⟩⟩ => match opd g.G s x with
    | some a => ofPair ((aClear g.T h t a).map fun h => (.tup [], h))
    | none => none
  | .call ⟨.builtin .delete, ⟨[x, y]⟩, ⟨[t, _]⟩⟩ => match opd g.G s x, opd g.G s y with
    | some a, some b => ofPair ((aDelete g.T h t a b).map fun h => (.tup [], h))
    | _, _ => none
  | .call ⟨.builtin .len, ⟨[x]⟩, ⟨[t]⟩⟩ => match opd g.G s x with
    | some a => ofVal (aLenMap g.T h t a) h
    | none => none
  | _ => none
def evO (g : Pg) (s : Sl) (h : H) (o : Op) : Option AO := match evP g.G g.T s o with
  | some v => some (.val v h)
  | none => evM g s h o

section
variable {P : Program} {g : Pg} (hg : POK P g) {E : Env} {h : H} {w : World} {s : Sl} {n : Nat} {a : Act}
theorem Lay.stp {S : Sem Value} {v : AV} {o : OB} (st : Sat E h w) (k : Lay P E w S h.nx v o) : ∃ z w' E', S.run P w = .ok z w' ∧ Stp E h w E' (h.new o) w' ∧ VR E' v z := by
  obtain ⟨z, w', e, ob, g1, g2, g3, g4, g5, g6, g7, g8⟩ := k
  obtain ⟨g9, g10⟩ := g8 (E.upd h.nx 0 e) (Env.upd_le st.no0) (Env.upd_eq _ _ _ _)
  exact ⟨z, w', _, g1, Stp.new st g7 g6 g2 g3 g4 g5 g9, g10⟩
include hg in
theorem evCall_ok (st : Sat E h w) {f : AV} {uf : Value} {args : List AV} {us : List Value} {r : AO} (k : evCall g h f args = some r) (hf : VR E f uf) (ha : VRs E args us) : ORes P E h w r ((do let d ← Deferred.ofValue uf us.toArray; invoke d.target d.args : Sem Next).run P w) := by
  unfold evCall at k
  split at k
  · rename_i f caps
    obtain ⟨cs, rfl, hcs⟩ := hf
    have hargs : us.toArray ++ cs.toArray = (us ++ cs).toArray := by simp
    have hinv : (do let d ← Deferred.ofValue (.func (.func f) #[] cs.toArray) us.toArray; invoke d.target d.args : Sem Next).run P w = (callFunc f (us ++ cs).toArray).run P w := by
      simp only [Deferred.ofValue, Sem.run_bind, Sem.run_pure, Result.andThen_ok, invoke, Array.empty_append, hargs]
    rw [hinv]
    split at k
    · rename_i c n' rs hF
      injection k with k; subst k
      have hok := hg.F f _ hF
      obtain ⟨fn, h1, h2, h3, h4, h5⟩ := hok
      refine ⟨⟨fn, h1, h2, h3, h4, h5⟩, us ++ cs, ?_, ha.append hcs⟩
      have hn' : ¬ fn.name = "runtime.NumGoroutine" := by simpa using h2
      unfold callFunc
      simp [h1, hn', h3]
    · rename_i kx hF
      obtain ⟨fn, h1, h2, h3, h4, h5⟩ := hg.F f _ hF
      have hx := run_callFunc_extern h1 h2 h3 h4 h5 (us ++ cs).toArray w
      cases hev : evX kx h (args ++ caps) with
      | none => rw [hev] at k; cases k
      | some vh =>
        obtain ⟨v, h'⟩ := vh
        rw [hev] at k
        simp only [ofPair] at k
        injection k with k; subst k
        obtain ⟨z, w', E', g1, g2, g3⟩ := evX_ok (P := P) st hev (ha.append hcs)
        refine ⟨z, w', E', ?_, g2, g3⟩
        rw [hx, g1]
        rfl
    · cases k
  · rename_i z
    injection k with k; subst k
    obtain ⟨e, he, rfl⟩ := hf
    refine ⟨e, us, he, ha, ?_⟩
    simp only [Deferred.ofValue, Sem.run_bind, Sem.run_pure, Result.andThen_ok, invoke, Array.empty_append]
  · cases k
include hg in
theorem evO_ok (st : Sat E h w) (hA : AR g.G E s n a) {o : Oper} {r : AO} (k : evO g s h o.op = some r) : ORes P E h w r ((execOp a.eval o).run P w) := by
  have hT := hg.T
  have val : ∀ {S : Sem Value} {v : AV}, (∃ z, S.run P w = .ok z w ∧ VR E v z) → ORes P E h w (.val v h) ((do pure (.value (← S)) : Sem Next).run P w) := fun {S v} ⟨z, h1, h2⟩ => ⟨z, w, E, by simp only [Sem.run_bind, h1, Result.andThen_ok, Sem.run_pure], Stp.refl st, h2⟩
  have val' : ∀ {S : Sem Value} {v : AV} {h' : H}, (∃ z w' E', S.run P w = .ok z w' ∧ Stp E h w E' h' w' ∧ VR E' v z) → ORes P E h w (.val v h') ((do pure (.value (← S)) : Sem Next).run P w) := fun {S v h'} ⟨z, w', E', h1, h2, h3⟩ => ⟨z, w', E', by simp only [Sem.run_bind, h1, Result.andThen_ok, Sem.run_pure], h2, h3⟩
  have skip : ∀ {S : Sem Unit} {h' : H}, (∃ w', S.run P w = .ok () w' ∧ Stp E h w E h' w') → ORes P E h w (.skip h') ((do S; pure .skip : Sem Next).run P w) := fun {S h'} ⟨w', h1, h2⟩ => ⟨w', E, by simp only [Sem.run_bind, h1, Result.andThen_ok, Sem.run_pure], h2⟩
  unfold evO at k
  split at k
  · rename_i v hv
    injection k with k; subst k
    obtain ⟨z, h1, h2⟩ := evP_ok hT hA hv w
    exact ⟨z, w, E, h1, Stp.refl st, h2⟩
  · rename_i hnone
    clear hnone
    obtain ⟨dst, op, ty, pos, after, guard⟩ := o
    simp only at k
    unfold evM at k
    split at k
    · split at k
      · rename_i u hu
        cases hq : aLoad g.T h _ u with
        | none => rw [hq] at k; cases k
        | some v =>
          rw [hq] at k; injection k with k; subst k
          exact val (aLoad_ok hT st hq (opd_ok hA hu))
      · cases k
    · split at k
      · rename_i u v hu hv
        cases hq : aStore g.T h _ u v with
        | none => rw [hq] at k; cases k
        | some v =>
          rw [hq] at k; injection k with k; subst k
          exact skip (aStore_ok hT st hq (opd_ok hA hu) (opd_ok hA hv))
      · cases k
    · split at k
      · rename_i ok _ _ u v hu hv
        cases hq : aLookup g.T h _ u v ok with
        | none => rw [hq] at k; cases k
        | some v =>
          rw [hq] at k; injection k with k; subst k
          exact val (aLookup_ok hT st hq (opd_ok hA hu) (opd_ok hA hv))
      · cases k
    · split at k
      · rename_i u v y hu hv hy
        cases hq : aMapUpd g.T h _ u v y with
        | none => rw [hq] at k; cases k
        | some v =>
          rw [hq] at k; injection k with k; subst k
          exact skip (aMapUpd_ok hT st hq (opd_ok hA hu) (opd_ok hA hv) (opd_ok hA hy))
      · cases k
    · split at k
      · rename_i u v y hu hv hy
        cases hq : aMapUpd g.T h _ u v y with
        | none => rw [hq] at k; cases k
        | some v =>
          rw [hq] at k; injection k with k; subst k
          exact skip (aMapUpd_ok hT st hq (opd_ok hA hu) (opd_ok hA hv) (opd_ok hA hy))
      · cases k
    · rename_i t
      cases hq : aAlloc g.T h.nx t with
      | none => rw [hq] at k; cases k
      | some vo =>
        obtain ⟨v, o⟩ := vo
        rw [hq] at k; injection k with k; subst k
        exact val' (Lay.stp st (aAlloc_ok hT hq))
    · split at k
      · rename_i u hu
        simp only [ofNew] at k
        injection k with k; subst k
        exact val' (Lay.stp st (aBox_ok (opd_ok hA hu)))
      · cases k
    · split at k
      · rename_i as has
        cases hq : aBuildSlice g.T h.nx _ _ as with
        | none => rw [hq] at k; cases k
        | some vo =>
          obtain ⟨v, o⟩ := vo
          rw [hq] at k; injection k with k; subst k
          simp only [execOp, List.map_toArray]
          exact val' (Lay.stp st (aBuildSlice_ok hT hq (prts_ok hA has)))
      · cases k
    · split at k
      · rename_i u v hu hv
        cases hq : aMakeSlice g.T h.nx _ u v with
        | none => rw [hq] at k; cases k
        | some vo =>
          obtain ⟨v, o⟩ := vo
          rw [hq] at k; injection k with k; subst k
          exact val' (Lay.stp st (aMakeSlice_ok hT hq (opd_ok hA hu) (opd_ok hA hv)))
      · cases k
    · simp only [ofNew] at k
      injection k with k; subst k
      exact val' (Lay.stp st aMakeMap_ok)
    · split at k
      · rename_i u hu
        cases hq : aBytesStr g.T h _ _ u with
        | none => rw [hq] at k; cases k
        | some v =>
          rw [hq] at k; injection k with k; subst k
          exact val (aBytesStr_ok hT st hq (opd_ok hA hu))
      · cases k
    · split at k
      · rename_i u hu
        cases hq : aRange g.T h _ u with
        | none => rw [hq] at k; cases k
        | some vo =>
          obtain ⟨v, o⟩ := vo
          rw [hq] at k; injection k with k; subst k
          exact val' (Lay.stp st (aRange_ok hT st hq (opd_ok hA hu)))
      · cases k
    · split at k
      · rename_i b _ u hu
        cases hq : aNext h u b with
        | none => rw [hq] at k; cases k
        | some vo =>
          obtain ⟨v, o⟩ := vo
          rw [hq] at k; injection k with k; subst k
          obtain ⟨z, w', h1, h2, h3⟩ := aNext_ok (P := P) (ty := ty) st hq (opd_ok hA hu)
          exact val' ⟨z, w', E, h1, h2, h3⟩
      · cases k
    · split at k
      · rename_i t v hu
        injection k with k; subst k
        have hv := opd_ok hA hu
        have hv' := hv
        obtain ⟨u, he, _⟩ := hv
        refine ⟨_, ?_, hv'⟩
        simp [execOp, he, Instr.panic]
      · cases k
    · split at k
      · rename_i xs _ f caps as hf has
        injection k with k; subst k
        obtain ⟨cs, he, hcs⟩ := opd_ok hA hf
        have hxs := opds_ok hA has
        refine ⟨_, ?_, f, cs, _, rfl, caps, rfl, hcs, hxs⟩
        simp [execOp, resolve, Deferred.ofValue, he]
      · cases k
    · split at k
      · rename_i xs _ _ _ f as hf has
        have := evCall_ok hg st k (opd_ok hA hf) (opds_ok hA has)
        simp only [execOp, resolve, List.map_toArray]
        exact this
      · cases k
    · split at k
      · rename_i u v hu hv
        cases hq : aAppend g.T h _ _ u v with
        | none => rw [hq] at k; cases k
        | some vo =>
          obtain ⟨v, o⟩ := vo
          rw [hq] at k; injection k with k; subst k
          obtain ⟨z, w', E', h1, h2, h3⟩ := aAppend_ok (ty := ty) hT st hq (opd_ok hA hu) (opd_ok hA hv)
          refine ⟨z, w', E', ?_, h2, h3⟩
          simp only [execOp, resolve, Sem.run_bind, Sem.run_pure, Result.andThen_ok, invoke, builtin, List.map_toArray, List.map_cons, List.map_nil, h1]
      · cases k
    · split at k
      · rename_i x y t tx _ _ u v hu hv
        cases hq : aCopy g.T h _ u v with
        | none => rw [hq] at k; cases k
        | some vo =>
          obtain ⟨v, o⟩ := vo
          rw [hq] at k; injection k with k; subst k
          obtain ⟨z, w', h1, h2, h3⟩ := aCopy_ok (ty := ty) (tx := tx) hT st hq (opd_ok hA hu) (opd_ok hA hv)
          refine ⟨z, w', E, ?_, h2, h3⟩
          simp only [execOp, resolve, Sem.run_bind, Sem.run_pure, Result.andThen_ok, invoke, builtin, List.map_toArray, List.map_cons, List.map_nil, h1]
      · cases k
    · split at k
      · rename_i u hu
        cases hq : aClear g.T h _ u with
        | none => rw [hq] at k; cases k
        | some h' =>
          rw [hq] at k; injection k with k; subst k
          obtain ⟨w', h1, h2⟩ := aClear_ok (ty := ty) hT st hq (opd_ok hA hu)
          refine ⟨_, w', E, ?_, h2, [], rfl, rfl⟩
          simp only [execOp, resolve, Sem.run_bind, Sem.run_pure, Result.andThen_ok, invoke, builtin, List.map_toArray, List.map_cons, List.map_nil, h1]
      · cases k
    · split at k
      · rename_i x y t tx _ _ u v hu hv
        cases hq : aDelete g.T h _ u v with
        | none => rw [hq] at k; cases k
        | some h' =>
          rw [hq] at k; injection k with k; subst k
          obtain ⟨w', h1, h2⟩ := aDelete_ok (ty := ty) (t2 := tx) hT st hq (opd_ok hA hu) (opd_ok hA hv)
          refine ⟨_, w', E, ?_, h2, [], rfl, rfl⟩
          simp only [execOp, resolve, Sem.run_bind, Sem.run_pure, Result.andThen_ok, invoke, builtin, List.map_toArray, List.map_cons, List.map_nil, h1]
      · cases k
    · split at k
      · rename_i u hu
        cases hq : aLenMap g.T h _ u with
        | none => rw [hq] at k; cases k
        | some v =>
          rw [hq] at k; injection k with k; subst k
          obtain ⟨z, h1, h2⟩ := aLenMap_ok (ty := ty) hT st hq (opd_ok hA hu)
          refine ⟨z, w, E, ?_, Stp.refl st, h2⟩
          simp only [execOp, resolve, Sem.run_bind, Sem.run_pure, Result.andThen_ok, invoke, builtin, List.map_toArray, List.map_cons, List.map_nil, h1]
      · cases k
    · cases k
end
end Go.Ev
