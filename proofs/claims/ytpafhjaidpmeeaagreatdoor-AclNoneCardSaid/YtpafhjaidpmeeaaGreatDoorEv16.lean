/- Words of this claim: what the evaluator gives is what the machine does: ranges over functions, rounds, calls; all of it. -/
import Derived.Test.YtpafhjaidpmeeaaGreatDoorEv15
set_option linter.unusedVariables false
set_option linter.unusedSimpArgs false
namespace Go.Ev
open Go.RowKit

section
variable {P : Program} {g : Pg} (hg : POK P g) {E : Env} {h : H} {w : World} {s : Sl} {n : Nat} {a : Act}

/-! ### A loop's record -/
theorem Sat.loop (st : Sat E h w) {z : Nat} {al : AL} (hz : h.t.get z = some (.loop al)) {e : Ent} (he : E z 0 = some e) : ∃ l, (Instr.getLoop e.b).run P w = .ok l w ∧ LR E al l ∧ w.heap[e.b]? = some (.loop l) := by
  obtain ⟨e', ob, h1, h2, l, rfl, h3⟩ := st.obj z _ hz
  simp only [OB.ver] at h1
  rw [he] at h1; injection h1 with h1; subst h1
  refine ⟨l, ?_, h3, h2⟩
  have : (getObj e.b).run P w = .ok (.loop l) w := by simp [getObj, Sem.run, h2]
  simp [Instr.getLoop, this]
theorem Sat.setLoop (st : Sat E h w) {z : Nat} {al al' : AL} (hz : h.t.get z = some (.loop al)) {e : Ent} (he : E z 0 = some e) {l : Loop} (k : LR E al' l) :
    ∃ w', (setObj e.b (.loop l)).run P w = .ok () w' ∧ Stp E h w E (h.upd z (.loop al')) w' := by
  obtain ⟨e', ob, h1, h2, l0, rfl, h3⟩ := st.obj z _ hz
  simp only [OB.ver] at h1
  rw [he] at h1; injection h1 with h1; subst h1
  refine ⟨_, run_setMap h2 (fun _ _ _ => by simp), Stp.upd st hz he rfl (ob := .loop l) ?_ (fun k hk => ?_) (by simp) rfl rfl rfl ⟨l, rfl, k⟩⟩
  · have : e.b < w.heap.size := (Array.getElem?_eq_some_iff.1 h2).1
    simp [this]
  · simp only [Array.getElem?_setIfInBounds]
    rw [if_neg (by omega)]

/-! ### Range over a function -/
theorem enter_ok (st : Sat E h w) {rd rb : Option Nat} (hR : RD E rd rb) (hS : SR E s n a.tmps) {d : Nat} {mark : List AD} {h1 : H} (k : around h rd = some (d, mark, h1)) (ps : Array Tmp) (asg body : Code) (fn : FuncId) :
    ∃ l ms w1 E1 e, (Instr.enterLoop fn a.tmps ps asg body rb).run P w = .ok (l, ms) w1 ∧ Stp E h w E1 (h1.new (.loop { state := .ready, pending := none, tmps := s, n := n, params := ps, assign := asg, body := body, defers := d })) w1 ∧ DRs E1 mark ms ∧ E1 h1.nx 0 = some e ∧ e.b = l := by
  cases rd with
  | none =>
    simp only [RD] at hR; subst hR
    simp only [around, Option.some.injEq, Prod.mk.injEq] at k
    obtain ⟨rfl, rfl, rfl⟩ := k
    have s1 := Stp.new (w' := w.alloc (.deferred (some []))) (o := .dfr (some [])) (e := ⟨w.heap.size, 0, 0, 0⟩) (ob := .deferred (some [])) st rfl rfl rfl rfl rfl rfl ⟨[], rfl, rfl⟩
    generalize hE1 : E.upd h.nx 0 ⟨w.heap.size, 0, 0, 0⟩ = E1 at s1
    have he1 : E1 h.nx 0 = some ⟨w.heap.size, 0, 0, 0⟩ := by rw [← hE1]; exact Env.upd_eq _ _ _ _
    have hle2 : E1.le (E1.upd (h.new (.dfr (some []))).nx 0 ⟨w.heap.size + 1, 0, 0, 0⟩) := Env.upd_le s1.sat.no0
    have hsz : (w.alloc (.deferred (some []))).heap.size = w.heap.size + 1 := by simp
    have s2 := Stp.new (w' := (w.alloc (.deferred (some []))).alloc (.loop { state := .ready, pending := none, fn, tmps := a.tmps, params := ps, assign := asg, body, defers := w.heap.size })) (o := .loop { state := .ready, pending := none, tmps := s, n := n, params := ps, assign := asg, body := body, defers := h.nx }) (e := ⟨w.heap.size + 1, 0, 0, 0⟩) (ob := .loop { state := .ready, pending := none, fn, tmps := a.tmps, params := ps, assign := asg, body, defers := w.heap.size }) s1.sat rfl hsz.symm rfl rfl rfl rfl ⟨_, rfl, a.tmps, ⟨w.heap.size, 0, 0, 0⟩, fn, hS.mono (Env.le_trans s1.le hle2), hle2 _ _ _ he1, rfl⟩
    refine ⟨w.heap.size + 1, [{ target := .collected w.heap.size, args := #[] }], _, _, ⟨w.heap.size + 1, 0, 0, 0⟩, ?_, s1.trans s2, ⟨_, _, rfl, ⟨_, hle2 _ _ _ he1, rfl⟩, rfl⟩, Env.upd_eq _ _ _ _, rfl⟩
    simp [Instr.enterLoop]
  | some z =>
    obtain ⟨e, he, rfl⟩ := hR
    simp only [around] at k
    split at k
    · rename_i al hz
      simp only [Option.some.injEq, Prod.mk.injEq] at k
      obtain ⟨rfl, rfl, rfl⟩ := k
      obtain ⟨l, hg1, hl, hb⟩ := st.loop (P := P) hz he
      obtain ⟨tm, ed, f, q1, q2, q3⟩ := hl
      have hle2 : E.le (E.upd h.nx 0 ⟨w.heap.size, 0, 0, 0⟩) := Env.upd_le st.no0
      have s2 := Stp.new (w' := w.alloc (.loop { state := .ready, pending := none, fn, tmps := a.tmps, params := ps, assign := asg, body, defers := ed.b })) (o := .loop { state := .ready, pending := none, tmps := s, n := n, params := ps, assign := asg, body := body, defers := al.defers }) (e := ⟨w.heap.size, 0, 0, 0⟩) (ob := .loop { state := .ready, pending := none, fn, tmps := a.tmps, params := ps, assign := asg, body, defers := ed.b }) st rfl rfl rfl rfl rfl rfl ⟨_, rfl, a.tmps, ed, fn, hS.mono hle2, hle2 _ _ _ q2, rfl⟩
      refine ⟨w.heap.size, [], _, _, ⟨w.heap.size, 0, 0, 0⟩, ?_, s2, rfl, Env.upd_eq _ _ _ _, rfl⟩
      subst q3
      simp [Instr.enterLoop, hg1]
    · cases k
include hg in
theorem rf_ok {rec : Rec} (hrec : RecOK P g rec) {rd rb : Option Nat} {f : Operand} {ps : Array Tmp} {asg body : Code} {ds : List AD} {e : AEx} {s' : Sl} {ds' : List AD} {h' : H} (k : evRF rec g n rd f ps asg body s ds h = some (.code e s' ds' h'))
    (st : Sat E h w) (ge : GE g.G E) (hS : SR E s n a.tmps) (hD : DRs E ds a.defers) (hR : RD E rd rb) : (Code.rangeFunc f ps asg body).wpIn (Fw rb) 0 P (CPost n E h w e s' ds' h') a w := by
  unfold evRF at k
  split at k
  · rename_i fid caps d mark h1 hf har
    split at k
    · rename_i c m rs hF
      refine wpIn_rangeFunc fun fn _ => ?_
      obtain ⟨l, ms, w1, E1, el, g1, g2, g3, g4, g5⟩ := enter_ok (P := P) st hR hS har ps asg body fn
      obtain ⟨cs, hfe, hcs⟩ := opd_ok ⟨hS, ge⟩ hf
      have hok := hg.F fid _ hF
      obtain ⟨fnx, i1, i2, i3, i4, i5⟩ := hok
      have hn' : ¬ fnx.name = "runtime.NumGoroutine" := by simpa using i2
      refine ⟨l, ms, w1, { target := .fn (.func fid) cs.toArray, args := #[.func (.yield l) #[] #[]] }, w1, fid, (.func (.yield l) #[] #[] :: cs).toArray, w1, g1, ?_, fun _ _ => trivial, ?_, (fun h => by cases h), ?_⟩
      · simp only [resolve, rangeCall, Deferred.ofValue, hfe]
        simp [Act.eval]
      · simp only [invoke]
        unfold callFunc
        simp [i1, hn', i3]
      · generalize hh2 : h1.new (.loop { state := .ready, pending := none, tmps := s, n := n, params := ps, assign := asg, body := body, defers := d }) = h2 at k g2
        cases hq : rec (.call c m rs (.yld h1.nx :: caps) h2) with
        | none => rw [hq] at k; cases k
        | some o =>
          have hT := hrec _ _ hq
          rw [hq] at k
          cases o with
          | code a1 a2 a3 a4 => cases k
          | fin e1 h3 =>
            have hC := hT E1 w1 (.func (.yield l) #[] #[] :: cs) fid g2.sat (ge.mono g2.le) ⟨_, _, rfl, ⟨el, g4, by rw [g5]⟩, hcs.mono g2.le⟩ ⟨fnx, i1, i2, i3, i4, i5⟩
            refine CallsIn.mono (F := Fw rb) hC fun en w3 hp => ?_
            obtain ⟨E3, hs3, hend⟩ := hp
            have hall := g2.trans hs3
            have hSS := hS.mono hall.le
            have hDD : DRs E3 (mark ++ ds) (ms ++ a.defers) := DRs.append (g3.mono hs3.le) (hD.mono hall.le)
            cases e1 with
            | panic vs =>
              obtain ⟨pl, rfl, hpl⟩ := hend
              simp only [endLoop, Option.some.injEq, Out.code.injEq] at k
              obtain ⟨rfl, rfl, rfl, rfl⟩ := k
              exact ⟨E3, hall, ⟨pl, rfl, hpl⟩, .inl hSS, hDD⟩
            | ret v =>
              obtain ⟨u, rfl, _⟩ := hend
              simp only [endLoop] at k
              split at k
              · rename_i al hz
                have he3 : E3 h1.nx 0 = some el := hs3.le _ _ _ g4
                obtain ⟨lp, j1, j2, j3⟩ := hs3.sat.loop (P := P) hz he3
                obtain ⟨tm, ed, f', q1, q2, q3⟩ := j2
                obtain ⟨w4, j4, j5⟩ := hs3.sat.setLoop (P := P) (al' := { al with state := .exhausted }) (l := { lp with state := .exhausted }) hz he3 ⟨tm, ed, f', q1, q2, by subst q3; rfl⟩
                have hbusy : al.state ≠ .busy → (Instr.endLoop l).run P w3 = .ok al.pending w4 := fun hb => by
                  have hb' : (lp.state == LoopState.busy) = false := by subst q3; simpa using hb
                  rw [← g5]
                  simp only [Instr.endLoop, Sem.run_bind, j1, Result.andThen_ok, hb', Bool.false_eq_true, if_false, j4, Sem.run_pure]
                  subst q3; rfl
                split at k
                · cases k
                · rename_i hst
                  have hrun := hbusy hst
                  split at k
                  · rename_i hpn
                    simp only [Option.some.injEq, Out.code.injEq] at k
                    obtain ⟨rfl, rfl, rfl, rfl⟩ := k
                    refine ⟨none, w4, by rw [hrun, hpn], ?_⟩
                    exact ⟨E3, hall.trans j5, rfl, .inl hSS, hDD⟩
                  · rename_i cj hpn
                    refine ⟨some cj, w4, by rw [hrun, hpn], ?_⟩
                    have hK := hrec _ _ k E3 w4 { a with defers := ms ++ a.defers } rb j5.sat (ge.mono hall.le) hSS hDD (hR.mono hall.le)
                    exact wpIn_mono hK.wp (CPost.trans (hall.trans j5))
              · cases k
    · cases k
  · cases k

/-! ### Results, leaving -/
def rrun (tmps : Array Value) : ResultVar → Sem Value
  | .tmp t => pure (tmps.getD t Go.undef)
  | .cell t ty => do loadVar ty (← asAddr (tmps.getD t Go.undef))
include hg in
theorem rrun_ok (st : Sat E h w) {tmps : Array Value} (hS : SR E s n tmps) : ∀ {rs : List ResultVar} {vs : List AV}, evRes g.T s h rs = some vs → ∃ us, (rs.mapM (rrun tmps)).run P w = .ok us w ∧ VRs E vs us
  | [], vs, k => by simp only [evRes, Option.some.injEq] at k; subst k; exact ⟨[], rfl, rfl⟩
  | .tmp t :: r, vs, k => by
    simp only [evRes] at k
    split at k
    · rename_i vs' hv
      injection k with k; subst k
      obtain ⟨us, h1, h2⟩ := rrun_ok st hS hv
      refine ⟨tmps.getD t Go.undef :: us, ?_, _, _, rfl, hS.2 t, h2⟩
      simp only [List.mapM_cons, Sem.run_bind, rrun, Sem.run_pure, Result.andThen_ok, h1]
    · cases k
  | .cell t ty :: r, vs, k => by
    simp only [evRes] at k
    split at k
    · rename_i v vs' hl hv
      injection k with k; subst k
      obtain ⟨us, h1, h2⟩ := rrun_ok st hS hv
      obtain ⟨z, h3, h4⟩ := aLoad_ok hg.T st hl (hS.2 t)
      refine ⟨z :: us, ?_, _, _, rfl, h4, h2⟩
      have h6 : (rrun tmps (.cell t ty)).run P w = .ok z w := by
        unfold aLoad at hl
        split at hl
        · rename_i z' r' o' td heq htd
          have hv' := hS.2 t
          rw [heq] at hv'
          obtain ⟨e, he, hs, hp⟩ := hv'
          rw [hp] at h3
          simp only [rrun, hp, asAddr, Sem.run_bind, Sem.run_pure, Result.andThen_ok]
          simpa [Instr.loadAt, Instr.sureAddr] using h3
        · cases hl
      simp only [List.mapM_cons, Sem.run_bind, h6, Result.andThen_ok, h1, Sem.run_pure]
    · cases k
include hg in
theorem results_ok (st : Sat E h w) {tmps : Array Value} (hS : SR E s n tmps) {fn : Func} {rs : List ResultVar} {vs : List AV} (hr : fn.results.toList = rs) (k : evRes g.T s h rs = some vs) : ∃ u, (results fn tmps).run P w = .ok u w ∧ VR E (tupV vs) u := by
  obtain ⟨us, h1, h2⟩ := rrun_ok hg st hS k
  have h3 : results fn tmps = (do let vs ← fn.results.mapM (rrun tmps); pure (if h : vs.size = 1 then vs[0] else .tuple vs)) := by
    unfold results
    congr 1
  rw [h3, Array.mapM_eq_mapM_toList, hr]
  match vs, us, h2 with
  | [], _, h2 =>
    simp only [VRs] at h2; subst h2
    exact ⟨.tuple #[], by simp [h1], [], rfl, rfl⟩
  | [v], _, ⟨u, r, e, hv, hr'⟩ =>
    simp only [VRs] at hr'; subst hr'; subst e
    exact ⟨u, by simp [h1], hv⟩
  | v :: v2 :: vs', _, ⟨u, r, e, hv, hr'⟩ =>
    obtain ⟨u2, r2, e2, hv2, hr2⟩ := hr'
    subst e2; subst e
    exact ⟨.tuple (u :: u2 :: r2).toArray, by simp [h1], _, rfl, ⟨u, _, rfl, hv, u2, r2, rfl, hv2, hr2⟩⟩
theorem Sat.dfr (st : Sat E h w) {z : Nat} (hz : h.t.get z = some (.dfr (some []))) {e : Ent} (he : E z 0 = some e) : ∃ w', (Instr.takeDeferred e.b).run P w = .ok [] w' ∧ Stp E h w E (h.upd z (.dfr none)) w' := by
  obtain ⟨e', ob, h1, h2, ds', rfl, h3⟩ := st.obj z _ hz
  simp only [OB.ver] at h1
  rw [he] at h1; injection h1 with h1; subst h1
  simp only [DRs] at h3; subst h3
  have hg1 : (getObj e.b).run P w = .ok (.deferred (some [])) w := by simp [getObj, Sem.run, h2]
  have hs1 : ∀ o', (setObj e.b o').run P w = .ok () { w with heap := w.heap.setIfInBounds e.b o' } := fun o' => run_setMap h2 (fun _ _ _ => by simp)
  refine ⟨{ w with heap := w.heap.setIfInBounds e.b (.deferred none) }, by simp [Instr.takeDeferred, hg1, hs1], Stp.upd st hz he rfl (ob := .deferred none) ?_ (fun k hk => ?_) (by simp) rfl rfl rfl rfl⟩
  · have : e.b < w.heap.size := (Array.getElem?_eq_some_iff.1 h2).1
    simp [this]
  · simp only [Array.getElem?_setIfInBounds]
    rw [if_neg (by omega)]
/-- How a frame is on its way out. -/
def MR (E : Env) : Option (List AV) → FrameMode → Prop
  | none, m => m = .returning
  | some vs, m => ∃ ps, m = .panicking ps ∧ PEs E vs ps
theorem PEs.mono {E E' : Env} (hle : E.le E') : ∀ {vs : List AV} {ps : List PanicEntry}, PEs E vs ps → PEs E' vs ps
  | [], _, k => k
  | a :: as, _, ⟨v, r, h1, h2, h3⟩ => ⟨v, r, h1, h2.mono hle, PEs.mono hle h3⟩
theorem MR.mono {E E' : Env} (hle : E.le E') : ∀ {u : Option (List AV)} {m : FrameMode}, MR E u m → MR E' u m
  | none, _, k => k
  | some vs, _, ⟨ps, h1, h2⟩ => ⟨ps, h1, h2.mono hle⟩
theorem LeavesInM.mono {F : Fence} {fn : Func} {tmps : Array Value} {R R' : Ending → World → Prop} (hq : ∀ e w, R e w → R' e w) : ∀ (ds : List Deferred) (m : FrameMode) (w : World), LeavesInM F n P fn tmps R ds m w → LeavesInM F n P fn tmps R' ds m w
  | [], m, w, k => by
    cases m with
    | run => exact k
    | returning => obtain ⟨v, h1, h2⟩ := k; exact ⟨v, h1, hq _ _ h2⟩
    | panicking ch => exact hq _ _ k
  | d :: ds, m, w, k => by
    obtain ⟨h1, h2⟩ := k
    refine ⟨h1, ?_⟩
    rcases h2 with ⟨r, w', q1, q2, q3⟩ | ⟨q1, fv, cap, f, args, q2, q3, q4, q5⟩
    · exact .inl ⟨r, w', q1, q2, LeavesInM.mono hq ds m w' q3⟩
    · refine .inr ⟨q1, fv, cap, f, args, q2, q3, q4, CallsDIn.mono q5 fun e u' w' he => ?_⟩
      cases e with
      | returned v => exact LeavesInM.mono hq ds _ w' he
      | panicked c => exact LeavesInM.mono hq ds _ w' he
      | outgrown => exact hq _ _ he
include hg in
theorem leave_ok {fn : Func} {rs : List ResultVar} (hr : fn.results.toList = rs) {tmps : Array Value} : ∀ (ds : List AD) (u : Option (List AV)) (m : FrameMode) (ds' : List Deferred) (E : Env) (h : H) (w : World) {e : AEnd} {h' : H},
    leave g.T rs s ds u h = some (.fin e h') → Sat E h w → (SR E s n tmps ∨ ((∃ vs, u = some vs) ∧ ds = [])) → DRs E ds ds' → MR E u m → LeavesInM Fence.wide 0 P fn tmps (FPost E h w e h') ds' m w
  | [], none, m, ds', E, h, w, e, h', k, st, hS, hD, hM => by
    simp only [DRs] at hD; subst hD
    simp only [MR] at hM; subst hM
    simp only [leave] at k
    split at k
    · rename_i vs hv
      simp only [Option.some.injEq, Out.fin.injEq] at k
      obtain ⟨rfl, rfl⟩ := k
      rcases hS with hS | ⟨⟨vs, hx⟩, _⟩
      · obtain ⟨u, h1, h2⟩ := results_ok hg st hS hr hv
        exact ⟨u, h1, E, Stp.refl st, u, rfl, h2⟩
      · cases hx
    · cases k
  | [], some vs, m, ds', E, h, w, e, h', k, st, hS, hD, hM => by
    simp only [DRs] at hD; subst hD
    obtain ⟨ps, rfl, hp⟩ := hM
    simp only [leave, Option.some.injEq, Out.fin.injEq] at k
    obtain ⟨rfl, rfl⟩ := k
    exact ⟨E, Stp.refl st, ps, rfl, hp⟩
  | .coll z :: ds, u, m, ds', E, h, w, e, h', k, st, hS, hD, hM => by
    obtain ⟨d, r, rfl, ⟨en, he, rfl⟩, hD'⟩ := hD
    simp only [leave] at k
    split at k
    · rename_i hz
      obtain ⟨w1, h1, h2⟩ := st.dfr (P := P) hz he
      have hS' : SR E s n tmps := by
        rcases hS with hS | ⟨_, hx⟩
        · exact hS
        · cases hx
      have ih := leave_ok hr ds u m r E _ w1 k h2.sat (.inl hS') hD' hM
      refine ⟨?_, .inl ⟨en.b, w1, rfl, h1, LeavesInM.mono (fun en' w' ⟨E', q1, q2⟩ => ⟨E', h2.trans q1, q2⟩) r m w1 ih⟩⟩
      cases u with
      | none => simp only [MR] at hM; subst hM; simp
      | some vs => obtain ⟨ps, rfl, _⟩ := hM; simp
    · cases k
  | .call f args :: ds, u, m, ds', E, h, w, e, h', k, st, hS, hD, hM => by cases k
end
end Go.Ev
