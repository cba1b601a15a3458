/- Words of this claim: what the evaluator gives is what the machine does: calls, rounds, all of it. -/
import Derived.Test.YtpafhjaidpmeeaaGreatDoorEv16
set_option linter.unusedVariables false
set_option linter.unusedSimpArgs false
namespace Go.Ev
open Go.RowKit

section
variable {P : Program} {g : Pg} (hg : POK P g) {E : Env} {h : H} {w : World} {s : Sl} {n : Nat} {a : Act}

/-! ### A call -/
theorem slots_look : ∀ (args : List AV) (i : Nat) (s : Sl) (t : Nat), look (slots i args s) t = if i ≤ t ∧ t < i + args.length then (args[t - i]?).getD AV.undef else look s t
  | [], i, s, t => by simp [slots]; intro h1 h2; omega
  | x :: r, i, s, t => by
    simp only [slots]
    rw [slots_look r (i + 1) (s.put i x) t]
    have hput : look (s.put i x) t = if t = i then x else look s t := by
      unfold look
      rw [Tr.get_put]
      by_cases hti : t = i
      · rw [if_pos hti, if_pos hti]
      · rw [if_neg hti, if_neg hti]
    rw [hput]
    by_cases h1 : t = i
    · subst h1
      rw [if_neg (by omega), if_pos rfl, if_pos (by simp only [List.length_cons]; omega)]
      simp
    · by_cases h2 : i + 1 ≤ t ∧ t < i + 1 + r.length
      · rw [if_pos h2, if_pos (by simp only [List.length_cons]; omega)]
        have : t - i = (t - (i + 1)) + 1 := by omega
        rw [this, List.getElem?_cons_succ]
      · rw [if_neg h2, if_neg h1, if_neg (by simp only [List.length_cons]; omega)]
theorem enter_slots {args : List AV} {us : List Value} (hA : VRs E args us) (hn : args.length ≤ n) : SR E (slots 0 args .e) n (us.toArray ++ Array.replicate (n - us.toArray.size) Go.undef) := by
  have hl := hA.len
  refine ⟨by simp; omega, fun t => ?_⟩
  rw [slots_look]
  rw [Array.getD_eq_getD_getElem?, Array.getElem?_append]
  by_cases ht : t < args.length
  · rw [if_pos (by omega), if_pos (by simp; omega)]
    obtain ⟨u, hu, hr⟩ := hA.at t (List.getElem?_eq_getElem ht)
    simp only [Nat.sub_zero, List.getElem?_eq_getElem ht, Option.getD_some, List.getElem?_toArray, hu]
    exact hr
  · rw [if_neg (by omega), if_neg (by simp; omega)]
    have h1 : look (.e : Sl) t = AV.undef := rfl
    rw [h1]
    have : ((Array.replicate (n - us.toArray.size) Go.undef)[t - us.toArray.size]?).getD Go.undef = Go.undef := by
      rw [Array.getElem?_replicate]
      split <;> rfl
    rw [this]
    exact VR.undef
include hg in
theorem call_ok {rec : Rec} (hrec : RecOK P g rec) {c : Code} {rs : List ResultVar} {args : List AV} {o : Out} (k : stepCall rec g c n rs args h = some o) : TaskOK P g (.call c n rs args h) o := by
  unfold stepCall at k
  split at k
  · rename_i hn
    have hn := Nat.le_of_ble_eq_true hn
    cases hq : rec (.code n none c (slots 0 args .e) [] h) with
    | none => rw [hq] at k; cases k
    | some out =>
      obtain ⟨e1, s1, ds1, h1, rfl⟩ := out_code hrec hq
      rw [hq] at k
      have hT := hrec _ _ hq
      have hfin : ∃ e h', o = .fin e h' := by
        cases o with
        | fin e h' => exact ⟨e, h', rfl⟩
        | code a1 a2 a3 a4 =>
          exfalso
          have key : ∀ (ds : List AD) (u : Option (List AV)) (h : H), leave g.T rs s1 ds u h ≠ some (.code a1 a2 a3 a4) := by
            intro ds
            induction ds with
            | nil =>
              intro u h hh
              cases u with
              | none => simp only [leave] at hh; split at hh <;> cases hh
              | some vs => simp only [leave] at hh; cases hh
            | cons d ds ih =>
              intro u h hh
              cases d with
              | call f as => cases hh
              | coll z => simp only [leave] at hh; split at hh; exact ih _ _ hh; cases hh
          cases e1 <;> simp only [leaveK] at k <;> first | exact key _ _ _ k | cases k
      obtain ⟨e, h', rfl⟩ := hfin
      intro E w us f st ge hA hf
      obtain ⟨fn, i1, i2, i3, i4, i5⟩ := hf
      subst i4
      refine callsIn_of_wp_marks i1 i3 trivial ?_ rfl
      have hSl := enter_slots (E := E) hA hn
      have hW := (hT E w { tmps := us.toArray ++ Array.replicate (fn.ntmps - us.toArray.size) Go.undef, defers := [] } none st ge hSl rfl rfl).wp
      refine wpIn_mono (F := Fence.wide) hW fun ex a' w' hp => ?_
      obtain ⟨E1, q1, q2, q3, q4⟩ := hp
      have mono : ∀ en w2, FPost E1 h1 w' e h' en w2 → FPost E h w e h' en w2 := fun en w2 ⟨E', r1, r2⟩ => ⟨E', q1.trans r1, r2⟩
      cases e1 with
      | normal =>
        simp only [ExR] at q2; subst q2
        have hS : SR E1 s1 fn.ntmps a'.tmps := by
          rcases q3 with q3 | ⟨⟨vs, hv⟩, _⟩
          · exact q3
          · cases hv
        exact LeavesInM.mono mono _ _ _ (leave_ok hg i5 ds1 none .returning a'.defers E1 h1 w' k q1.sat (.inl hS) q4 rfl)
      | ret =>
        simp only [ExR] at q2; subst q2
        have hS : SR E1 s1 fn.ntmps a'.tmps := by
          rcases q3 with q3 | ⟨⟨vs, hv⟩, _⟩
          · exact q3
          · cases hv
        exact LeavesInM.mono mono _ _ _ (leave_ok hg i5 ds1 none .returning a'.defers E1 h1 w' k q1.sat (.inl hS) q4 rfl)
      | panic vs =>
        obtain ⟨ps, rfl, hp⟩ := q2
        refine LeavesInM.mono mono _ _ _ (leave_ok (n := fn.ntmps) hg i5 ds1 (some vs) (.panicking ps) a'.defers E1 h1 w' k q1.sat ?_ q4 ⟨ps, rfl, hp⟩)
        rcases q3 with q3 | ⟨_, hx⟩
        · exact .inl q3
        · exact .inr ⟨⟨vs, rfl⟩, hx⟩
      | exit id => cases k
      | goto id => cases k
  · cases k

/-! ### A round -/
theorem putPs_ok : ∀ {ts : List Tmp} {as : List AV} {us : List Value} {s s' : Sl} {tmps : Array Value}, putPs n ts as s = some s' → SR E s n tmps → VRs E as us → ts.length = us.length ∧ SR E s' n ((ts.zip us).foldl (fun tmps (x : Tmp × Value) => tmps.setIfInBounds x.1 x.2) tmps)
  | [], [], us, s, s', tmps, k, hS, hA => by
    simp only [putPs, Option.some.injEq] at k; subst k
    simp only [VRs] at hA; subst hA
    exact ⟨rfl, hS⟩
  | t :: ts, x :: as, us, s, s', tmps, k, hS, ⟨u, r, h1, h2, h3⟩ => by
    subst h1
    simp only [putPs] at k
    split at k
    · rename_i hb
      rw [blt_dec] at hb
      obtain ⟨q1, q2⟩ := putPs_ok k (hS.put (by simpa using hb) h2) h3
      exact ⟨by simp [q1], q2⟩
    · cases k
  | [], _ :: _, _, _, _, _, k, _, _ => by cases k
  | _ :: _, [], _, _, _, _, k, _, _ => by cases k
theorem endRound_ok (st : Sat E h w) {z : Nat} {en : Ent} (he : E z 0 = some en) {jump : Option Code} {o : Out} (k : endRound z h jump = some o) : ∃ e h', o = .fin e h' ∧ ∃ v w', (Instr.endRound en.b jump).run P w = .ok v w' ∧ FPost E h w e h' (.returned v) w' := by
  unfold endRound at k
  split at k
  · rename_i al hz
    obtain ⟨lp, j1, j2, j3⟩ := st.loop (P := P) hz he
    obtain ⟨tm, ed, f', q1, q2, q3⟩ := j2
    cases jump with
    | none =>
      simp only [Option.some.injEq] at k
      subst k
      obtain ⟨w4, j4, j5⟩ := st.setLoop (P := P) (al' := { al with state := .ready, pending := none }) (l := { lp with state := .ready, pending := none }) hz he ⟨tm, ed, f', q1, q2, by subst q3; rfl⟩
      refine ⟨_, _, rfl, .bool true, w4, ?_, E, j5, _, rfl, rfl⟩
      simp only [Instr.endRound, Sem.run_bind, j1, Result.andThen_ok, Option.isNone_none, if_true, j4, Sem.run_pure]
    | some c =>
      simp only [Option.some.injEq] at k
      subst k
      obtain ⟨w4, j4, j5⟩ := st.setLoop (P := P) (al' := { al with state := .done, pending := some c }) (l := { lp with state := .done, pending := some c }) hz he ⟨tm, ed, f', q1, q2, by subst q3; rfl⟩
      refine ⟨_, _, rfl, .bool false, w4, ?_, E, j5, _, rfl, rfl⟩
      simp only [Instr.endRound, Sem.run_bind, j1, Result.andThen_ok, Option.isNone_some, Bool.false_eq_true, if_false, j4, Sem.run_pure]
  · cases k
theorem roundK_ok (st : Sat E h w) (st0 : GE g.G E) {z : Nat} {en : Ent} (he : E z 0 = some en) {e1 : AEx} {s1 : Sl} {ds1 : List AD} {h1 : H} {o : Out} (k : roundK z (some (.code e1 s1 ds1 h1)) = some o) :
    ∃ e h', o = .fin e h' ∧ ∀ ex a' w', CPost n E h w e1 s1 ds1 h1 ex a' w' → roundPost P en.b (FPost E h w e h') ex a' w' := by
  cases e1 with
  | normal =>
    simp only [roundK] at k
    have : ∃ e h', o = .fin e h' := by
      unfold endRound at k
      split at k
      · simp only [Option.some.injEq] at k; exact ⟨_, _, k.symm⟩
      · cases k
    obtain ⟨e, h', rfl⟩ := this
    refine ⟨e, h', rfl, fun ex a' w' hp => ?_⟩
    obtain ⟨rfl, E1, q1, q2, q3⟩ := hp.normal
    obtain ⟨e2, h2, hx, v, w2, r1, r2⟩ := endRound_ok (P := P) q1.sat (q1.le _ _ _ he) k
    injection hx with hx1 hx2; subst hx1; subst hx2
    exact ⟨v, w2, r1, let ⟨E', r3, r4⟩ := r2; ⟨E', q1.trans r3, r4⟩⟩
  | ret =>
    simp only [roundK] at k
    have : ∃ e h', o = .fin e h' := by
      unfold endRound at k
      split at k
      · simp only [Option.some.injEq] at k; exact ⟨_, _, k.symm⟩
      · cases k
    obtain ⟨e, h', rfl⟩ := this
    refine ⟨e, h', rfl, fun ex a' w' hp => ?_⟩
    obtain ⟨E1, q1, q2, q3, q4⟩ := hp
    simp only [ExR] at q2; subst q2
    obtain ⟨e2, h2, hx, v, w2, r1, r2⟩ := endRound_ok (P := P) q1.sat (q1.le _ _ _ he) k
    injection hx with hx1 hx2; subst hx1; subst hx2
    exact ⟨v, w2, r1, let ⟨E', r3, r4⟩ := r2; ⟨E', q1.trans r3, r4⟩⟩
  | exit id =>
    simp only [roundK] at k
    have : ∃ e h', o = .fin e h' := by
      unfold endRound at k
      split at k
      · simp only [Option.some.injEq] at k; exact ⟨_, _, k.symm⟩
      · cases k
    obtain ⟨e, h', rfl⟩ := this
    refine ⟨e, h', rfl, fun ex a' w' hp => ?_⟩
    obtain ⟨E1, q1, q2, q3, q4⟩ := hp
    simp only [ExR] at q2; subst q2
    obtain ⟨e2, h2, hx, v, w2, r1, r2⟩ := endRound_ok (P := P) q1.sat (q1.le _ _ _ he) k
    injection hx with hx1 hx2; subst hx1; subst hx2
    exact ⟨v, w2, r1, let ⟨E', r3, r4⟩ := r2; ⟨E', q1.trans r3, r4⟩⟩
  | goto l => cases k
  | panic vs => cases k
theorem round_ok {rec : Rec} (hrec : RecOK P g rec) {z : Nat} {args : List AV} {o : Out} (k : stepRound rec z args h = some o) : TaskOK P g (.round z args h) o := by
  unfold stepRound at k
  split at k
  · rename_i al hz
    split at k
    · rename_i s0 hps
      cases hq : rec (.code al.n (some z) al.assign s0 [] h) with
      | none => rw [hq] at k; cases k
      | some out =>
        obtain ⟨e1, s1, ds1, h1, rfl⟩ := out_code hrec hq
        rw [hq] at k
        cases e1 with
        | normal =>
          simp only [bodyK] at k
          split at k
          · rename_i al1 hz1
            split at k
            · rename_i hrd
              cases hq2 : rec (.code al.n (some z) al.body s1 ds1 (h1.upd z (.loop { al1 with state := .busy }))) with
              | none => rw [hq2] at k; cases k
              | some out2 =>
                obtain ⟨e2, s2, ds2, h2, rfl⟩ := out_code hrec hq2
                rw [hq2] at k
                have hfin : ∃ e h', o = .fin e h' := by
                  cases e2 <;> simp only [roundK] at k <;> first | (cases k; done) | skip
                  all_goals
                    unfold endRound at k
                    split at k
                    · simp only [Option.some.injEq] at k; exact ⟨_, _, k.symm⟩
                    · cases k
                obtain ⟨e, h', rfl⟩ := hfin
                intro E w us en st ge hA he
                obtain ⟨lp, j1, j2, j3⟩ := st.loop (P := P) hz he
                obtain ⟨tm, ed, f', q1, q2, q3⟩ := j2
                obtain ⟨r1, r2⟩ := putPs_ok hps q1 hA
                refine ⟨f', _, al.assign, al.body, ?_, roundIn_of_wpIn (F := Fence.wide) (n := 0) (tmps := (al.params.toList.zip us).foldl (fun tmps (x : Tmp × Value) => tmps.setIfInBounds x.1 x.2) tm) trivial ?_⟩
                · subst q3
                  have hsz : us.toArray.size = al.params.size := by simp; rw [← r1]; simp
                  simp only [Instr.yield, Sem.run_bind, j1, Result.andThen_ok, hsz, ne_eq, not_true_eq_false, if_false, Sem.run_pure]
                  congr 2
                  rw [← Array.foldl_toList]
                  simp
                · have hW := (hrec _ _ hq E w { tmps := (al.params.toList.zip us).foldl (fun tmps (x : Tmp × Value) => tmps.setIfInBounds x.1 x.2) tm, defers := [] } (some en.b) st ge r2 rfl ⟨en, he, rfl⟩).wp
                  refine wpIn_mono (F := Fw (some en.b)) hW fun ex a' w' hp => ?_
                  obtain ⟨rfl, E1, p1, p2, p3⟩ := hp.normal
                  have he1 := p1.le _ _ _ he
                  obtain ⟨lp1, m1, m2, m3⟩ := p1.sat.loop (P := P) hz1 he1
                  obtain ⟨tm1, ed1, f1, n1, n2, n3⟩ := m2
                  obtain ⟨w2, j4, j5⟩ := p1.sat.setLoop (P := P) (al' := { al1 with state := .busy }) (l := { lp1 with state := .busy }) hz1 he1 ⟨tm1, ed1, f1, n1, n2, by subst n3; rfl⟩
                  refine ⟨w2, ?_, ?_⟩
                  · have hst : lp1.state = .ready := by subst n3; exact hrd
                    simp only [Instr.beginRound, Sem.run_bind, m1, Result.andThen_ok, j4, hst, Sem.run_pure]
                  · have hall := p1.trans j5
                    have hW2 := (hrec _ _ hq2 E1 w2 a' (some en.b) j5.sat (ge.mono p1.le) p2 p3 ⟨en, he1, rfl⟩).wp
                    obtain ⟨e3, h3, hx, hpost⟩ := roundK_ok (P := P) (g := g) (n := al.n) (w := w2) j5.sat (ge.mono p1.le) he1 k
                    injection hx with hx1 hx2; subst hx1; subst hx2
                    refine wpIn_mono (F := Fw (some en.b)) hW2 fun ex a'' w'' hp2 => ?_
                    have := hpost ex a'' w'' hp2
                    cases ex <;> first
                      | exact this.elim
                      | (obtain ⟨v, w5, t1, E5, t2, t3⟩ := this; exact ⟨v, w5, t1, E5, hall.trans t2, t3⟩)
            · cases k
          · cases k
        | _ => cases k
    · cases k
  · cases k

/-! ### All of it -/
theorem evOps_fin {rec : Rec} {rd : Option Nat} {ops : List Oper} {e : AEnd} {h' : H} : ∀ (rest : List Oper) (s : Sl) (ds : List AD) (h : H), evOps rec g n rd ops rest s ds h ≠ some (.fin e h')
  | [], s, ds, h, k => by cases k
  | o :: r, s, ds, h, k => by
    simp only [evOps] at k
    split at k
    · split at k
      · exact evOps_fin r _ _ _ k
      · cases k
    · split at k
      · split at k
        · exact evOps_fin r _ _ _ k
        · cases k
      · cases k
      · split at k
        · exact evOps_fin r _ _ _ k
        · cases k
      · cases k
theorem stepCode_fin {rec : Rec} (hrec : RecOK P g rec) {dr : Dr} (hdr : DrOK P g dr) {rd : Option Nat} {c : Code} {ds : List AD} {e : AEnd} {h' : H} (k : stepCode rec dr g n rd c s ds h = some (.fin e h')) : False := by
  have nof : ∀ {n rd c s ds h}, rec (.code n rd c s ds h) = some (.fin e h') → False := fun hq => hrec _ _ hq
  have seqf : ∀ {c b}, seqK rec n rd b (rec (.code n rd c s ds h)) = some (.fin e h') → False := fun {c b} k => by
    cases hq : rec (.code n rd c s ds h) with
    | none => rw [hq] at k; cases k
    | some o =>
      obtain ⟨e1, s1, ds1, h1, rfl⟩ := out_code hrec hq
      rw [hq] at k
      cases e1 <;> simp only [seqK] at k <;> first | exact nof k | cases k
  cases c with
  | seq a b => exact seqf k
  | loop c => exact seqf k
  | cond c x y =>
    simp only [stepCode] at k
    cases hc : opd g.G s c with
    | none => rw [hc] at k; cases k
    | some v =>
      rw [hc] at k
      cases v <;> simp only [condK] at k <;> first | (cases k; done) | skip
      rename_i b
      cases b <;> exact nof k
  | block id c =>
    simp only [stepCode] at k
    cases hq : rec (.code n rd c s ds h) with
    | none => rw [hq] at k; cases k
    | some o =>
      obtain ⟨e1, s1, ds1, h1, rfl⟩ := out_code hrec hq
      rw [hq] at k
      cases e1 <;> simp only [blockK] at k <;> first | (cases k; done) | (split at k <;> cases k)
  | scope c =>
    simp only [stepCode] at k
    cases hq : rec (.code n rd c s ds h) with
    | none => rw [hq] at k; cases k
    | some o =>
      obtain ⟨e1, s1, ds1, h1, rfl⟩ := out_code hrec hq
      rw [hq] at k
      cases e1 <;> simp only [scopeK] at k <;> cases k
  | region id ops d =>
    cases d with
    | false => exact evOps_fin _ _ _ _ k
    | true => exact hdr rec hrec n rd id ops.toList s ds h _ k
  | rangeFunc f ps asg body =>
    simp only [stepCode, evRF] at k
    split at k
    · split at k
      · unfold endLoop at k
        split at k
        · split at k
          · split at k
            · cases k
            · split at k
              · cases k
              · exact nof k
          · cases k
        · cases k
        · cases k
      · cases k
    · cases k
  | skip => cases k
  | label l => cases k
  | ret => cases k
  | exit id => cases k
  | goto l => cases k
  | refuse y => cases k
include hg in
theorem code_ok {rec : Rec} (hrec : RecOK P g rec) {dr : Dr} (hdr : DrOK P g dr) {rd : Option Nat} {c : Code} {ds : List AD} {o : Out} (k : stepCode rec dr g n rd c s ds h = some o) : TaskOK P g (.code n rd c s ds h) o := by
  have hcode : ∃ e s' ds' h', o = .code e s' ds' h' := by
    cases o with
    | code e s' ds' h' => exact ⟨_, _, _, _, rfl⟩
    | fin e h' => exact (stepCode_fin hrec hdr k).elim
  obtain ⟨e, s', ds', h', rfl⟩ := hcode
  intro E w a rb st ge hS hD hR
  cases c with
  | skip =>
    simp only [stepCode, Option.some.injEq, Out.code.injEq] at k
    obtain ⟨rfl, rfl, rfl, rfl⟩ := k
    exact wpIn_skip ⟨E, Stp.refl st, rfl, .inl hS, hD⟩
  | label l =>
    simp only [stepCode, Option.some.injEq, Out.code.injEq] at k
    obtain ⟨rfl, rfl, rfl, rfl⟩ := k
    exact wpIn_label ⟨E, Stp.refl st, rfl, .inl hS, hD⟩
  | ret =>
    simp only [stepCode, Option.some.injEq, Out.code.injEq] at k
    obtain ⟨rfl, rfl, rfl, rfl⟩ := k
    exact wpIn_ret ⟨E, Stp.refl st, rfl, .inl hS, hD⟩
  | exit id =>
    simp only [stepCode, Option.some.injEq, Out.code.injEq] at k
    obtain ⟨rfl, rfl, rfl, rfl⟩ := k
    exact wpIn_exit ⟨E, Stp.refl st, rfl, .inl hS, hD⟩
  | seq x y =>
    simp only [stepCode] at k
    exact wpIn_seq (wpIn_mono (seq_ok hrec k st ge hS hD hR) fun ex a' w' hp => by
      cases ex with
      | normal => exact CW.wp hp
      | _ => exact hp)
  | cond c x y =>
    simp only [stepCode] at k
    cases hc : opd g.G s c with
    | none => rw [hc] at k; cases k
    | some v =>
      rw [hc] at k
      have hv := opd_ok (a := a) ⟨hS, ge⟩ hc
      cases v <;> simp only [condK] at k <;> first | (cases k; done) | skip
      rename_i b
      simp only [VR] at hv
      cases b with
      | true => exact wpIn_cond_true hv (hrec _ _ k E w a rb st ge hS hD hR).wp
      | false => exact wpIn_cond_false hv (hrec _ _ k E w a rb st ge hS hD hR).wp
  | block id c =>
    simp only [stepCode] at k
    exact block_ok hrec k st ge hS hD hR
  | loop c =>
    simp only [stepCode] at k
    exact LoopW.of (wpIn_mono (seq_ok hrec k st ge hS hD hR) fun ex a' w' hp => by
      cases ex with
      | normal => exact hp
      | _ => exact hp)
  | scope c =>
    simp only [stepCode] at k
    exact scope_ok hrec k st ge hS hD hR
  | region id ops d =>
    cases d with
    | false =>
      simp only [stepCode] at k
      refine wpIn_region ?_
      have := evOps_ok hg hrec (n := n) (rd := rd) (ops := ops) ops.toList 0 E h w s ds a (e := e) (s' := s') (ds' := ds') (h' := h') (rb := rb) (by simp) k st ge hS hD hR
      rw [Array.length_toList, ← List.range_eq_range'] at this
      exact this
    | true =>
      simp only [stepCode] at k
      have := hdr rec hrec n rd id ops.toList s ds h _ k E w a rb st ge hS hD hR
      exact this
  | rangeFunc f ps asg body =>
    simp only [stepCode] at k
    exact rf_ok hg hrec k st ge hS hD hR
  | goto l => cases k
  | refuse why => cases k
include hg in
theorem ev_ok {dr : Dr} (hdr : DrOK P g dr) : ∀ f, RecOK P g (ev dr g f)
  | 0 => fun t o k => by cases k
  | f + 1 => fun t o k => by
    have ih := ev_ok hdr f
    simp only [ev] at k
    cases t with
    | code n rd c s ds h => exact code_ok hg ih hdr k
    | call c n rs args h => exact call_ok hg ih k
    | round z args h => exact round_ok ih k
end
end Go.Ev
