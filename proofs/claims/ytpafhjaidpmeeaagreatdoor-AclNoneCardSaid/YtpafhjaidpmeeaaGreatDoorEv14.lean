/- Words of this claim: what the evaluator gives is what the machine does. -/
import Derived.Test.YtpafhjaidpmeeaaGreatDoorEv13
set_option linter.unusedVariables false
set_option linter.unusedSimpArgs false
namespace Go.Ev
open Go.RowKit

def Fw (rb : Option Nat) : Fence := { Fence.wide with round := rb }
theorem Fw_fn (rb : Option Nat) (f : FuncId) : (Fw rb).fn f := trivial
theorem Fw_room (rb : Option Nat) (n : Nat) : (Fw rb).room n := fun d h => by cases h
def RD (E : Env) : Option Nat → Option Nat → Prop
  | none, rb => rb = none
  | some z, rb => ∃ e, E z 0 = some e ∧ rb = some e.b
theorem RD.mono {E E' : Env} (h : E.le E') : ∀ {rd rb : Option Nat}, RD E rd rb → RD E' rd rb
  | none, _, k => k
  | some z, _, ⟨e, h1, h2⟩ => ⟨e, h _ _ _ h1, h2⟩
def PEs (E : Env) : List AV → List PanicEntry → Prop
  | [], ps => ps = []
  | a :: as, ps => ∃ v r, ps = { v, recovered := false } :: r ∧ VR E a v ∧ PEs E as r
def ExR (E : Env) : AEx → Exit → Prop
  | .normal, e => e = .normal
  | .exit id, e => e = .exit id
  | .goto l, e => e = .goto l
  | .ret, e => e = .ret
  | .panic vs, e => ∃ ps, e = .panic ps ∧ PEs E vs ps
def EndR (E : Env) : AEnd → Ending → Prop
  | .ret v, e => ∃ u, e = .returned u ∧ VR E v u
  | .panic vs, e => ∃ ps, e = .panicked ps ∧ PEs E vs ps

def CPost (n : Nat) (E : Env) (h : H) (w : World) (e : AEx) (s : Sl) (ds : List AD) (h' : H) : Exit → Act → World → Prop :=
  fun ex a w' => ∃ E', Stp E h w E' h' w' ∧ ExR E' e ex ∧ (SR E' s n a.tmps ∨ ((∃ vs, e = .panic vs) ∧ ds = [])) ∧ DRs E' ds a.defers
def FPost (E : Env) (h : H) (w : World) (e : AEnd) (h' : H) : Ending → World → Prop :=
  fun en w' => ∃ E', Stp E h w E' h' w' ∧ EndR E' e en

/-- From where a loop's first round begins. -/
def LoopW (F : Fence) (P : Program) (c : Code) (Q : Exit → Act → World → Prop) (a : Act) (w : World) : Prop :=
  ∀ (b : Frame) (k : List Item) (cs : List Frame), b.roundOf = F.round → F.fn b.fn → F.room (cs.length + 1 + 0) →
    ∃ e a' w', Q e a' w' ∧ ArrivesIn (Machine.fenced P F) P (lone (b.atR a (.code c :: .inLoop c :: k)) cs w) b k cs e a' w'
theorem LoopW.wp {P : Program} {a : Act} {w : World} {F : Fence} {c : Code} {Q : Exit → Act → World → Prop} (k : LoopW F P c Q a w) : (Code.loop c).wpIn F 0 P Q a w := fun b k' cs hro hb hr => by
  obtain ⟨e, a', w', hq, harr⟩ := k b k' cs hro hb hr
  exact ⟨e, a', w', hq, .of_steps (.one (fenced_calm hb hr rfl) stepR_loop) harr⟩
/-- A code's promise, where a loop's is a little more. -/
def CW (F : Fence) (P : Program) (Q : Exit → Act → World → Prop) (a : Act) (w : World) : Code → Prop
  | .loop c => LoopW F P c Q a w
  | c => c.wpIn F 0 P Q a w
theorem CW.wp {P : Program} {a : Act} {w : World} {F : Fence} {Q : Exit → Act → World → Prop} {c : Code} (k : CW F P Q a w c) : c.wpIn F 0 P Q a w := by
  cases c <;> first | exact LoopW.wp k | exact k
def TaskOK (P : Program) (g : Pg) : Task → Out → Prop
  | .code n rd c s ds h, .code e s' ds' h' => ∀ E w a rb, Sat E h w → GE g.G E → SR E s n a.tmps → DRs E ds a.defers → RD E rd rb → CW (Fw rb) P (CPost n E h w e s' ds' h') a w c
  | .call c n rs args h, .fin e h' => ∀ E w us f, Sat E h w → GE g.G E → VRs E args us → FIok P f (.code c n rs) → CallsIn Fence.wide 0 P f us.toArray w (FPost E h w e h')
  | .round z args h, .fin e h' => ∀ E w us en, Sat E h w → GE g.G E → VRs E args us → E z 0 = some en → ∃ f tmps asg body, (Instr.yield en.b us.toArray).run P w = .ok (.round en.b f tmps asg body) w ∧ RoundIn Fence.wide 0 P en.b f tmps asg body w (FPost E h w e h')
  | _, _ => False
def RecOK (P : Program) (g : Pg) (rec : Rec) : Prop := ∀ t o, rec t = some o → TaskOK P g t o
abbrev Dr := Rec → Pg → Nat → Option Nat → List Oper → Sl → List AD → H → Option Out
def DrOK (P : Program) (g : Pg) (dr : Dr) : Prop := ∀ rec, RecOK P g rec → ∀ n rd id ops s ds h o, dr rec g n rd ops s ds h = some o → TaskOK P g (.code n rd (.region id ops.toArray true) s ds h) o

section
variable {P : Program} {g : Pg} (hg : POK P g) {E : Env} {h : H} {w : World} {s : Sl} {n : Nat} {a : Act}

theorem look_bool {v : AV} {u : Value} (k : VR E v u) : (∃ b, v = .bool b ∧ u = .bool b) ∨ ((∀ b, v ≠ .bool b) ∧ ∀ b, u ≠ .bool b) := by
  cases v with
  | bool b => left; exact ⟨b, rfl, k⟩
  | int _ _ => right; simp only [VR] at k; subst k; simp
  | str _ => right; simp only [VR] at k; obtain ⟨rfl, _⟩ := k; simp
  | ptrN => right; simp only [VR] at k; subst k; simp
  | ptr _ _ _ => right; obtain ⟨_, _, _, rfl⟩ := k; simp
  | slN => right; simp only [VR] at k; subst k; simp
  | sl _ _ _ _ _ _ => right; obtain ⟨_, _, _, _, rfl, _⟩ := k; simp
  | slE => right; obtain ⟨_, _, rfl⟩ := k; simp
  | mapN => right; simp only [VR] at k; subst k; simp
  | map _ => right; obtain ⟨_, _, rfl⟩ := k; simp
  | fnN => right; simp only [VR] at k; subst k; simp
  | fn _ _ => right; obtain ⟨_, rfl, _⟩ := k; simp
  | yld _ => right; obtain ⟨_, _, rfl⟩ := k; simp
  | ifN => right; simp only [VR] at k; subst k; simp
  | iface _ _ => right; obtain ⟨_, rfl, _⟩ := k; simp
  | agg _ => right; obtain ⟨_, rfl, _⟩ := k; simp
  | tup _ => right; obtain ⟨_, rfl, _⟩ := k; simp
theorem yielded_of {ops : Array Oper} {tmps : Array Value} (hS : SR E s n tmps) (j : Nat) : yielded ops tmps j = match ops.toList[j]? with
    | some q => match q.dst with
      | some d => match look s d with
        | .bool b => some b
        | _ => none
      | none => none
    | none => none := by
  unfold yielded
  rw [Array.getElem?_toList]
  cases ops[j]? with
  | none => rfl
  | some q =>
    simp only [Option.bind_some]
    cases q.dst with
    | none => rfl
    | some d =>
      simp only [Option.bind_some]
      have h1 := hS.2 d
      rw [Array.getD_eq_getD_getElem?] at h1
      rcases look_bool h1 with ⟨b, h2, h3⟩ | ⟨h2, h3⟩
      · rw [h2]
        cases hx : tmps[d]? with
        | none => rw [hx] at h3; simp [Go.undef] at h3
        | some u =>
          rw [hx] at h3
          simp only [Option.getD_some] at h3
          rw [h3]
      · have : (match look s d with
          | .bool b => some b
          | _ => none) = none := by
          cases hl : look s d <;> first | rfl | (exact absurd hl (h2 _))
        rw [this]
        cases hx : tmps[d]? with
        | none => rfl
        | some u =>
          rw [hx] at h3
          simp only [Option.getD_some] at h3
          cases u <;> first | rfl | (exact absurd rfl (h3 _))
theorem want_ok {ops : Array Oper} {tmps : Array Value} (hS : SR E s n tmps) (o : Oper) : Region.wanted o (yielded ops tmps) = wantA ops.toList s o := by
  unfold Region.wanted wantA
  cases o.guard with
  | none => rfl
  | some jw =>
    obtain ⟨j, want⟩ := jw
    simp only [yielded_of hS j]
    cases ops.toList[j]? with
    | none => rfl
    | some q =>
      simp only []
      cases q.dst with
      | none => rfl
      | some d =>
        simp only []
        cases look s d <;> first | rfl | skip
        rename_i b
        cases b <;> cases want <;> rfl
theorem put_ok {s' : Sl} {d : Option Tmp} {v : AV} {u : Value} (k : putA n s d v = some s') (hS : SR E s n a.tmps) (hv : VR E v u) : SR E s' n (a.put d u).tmps := by
  cases d with
  | none => simp only [putA, Option.some.injEq] at k; subst k; exact hS
  | some d =>
    simp only [putA] at k
    split at k
    · rename_i hb
      injection k with k; subst k
      rw [blt_dec] at hb
      exact hS.put (by simpa using hb) hv
    · cases k
theorem put_defers (a : Act) (d : Option Tmp) (v : Value) : (a.put d v).defers = a.defers := by cases d <;> rfl

/-- An operation, with what it calls. -/
theorem evOp_nodefer {rec : Rec} {o : Op} {r : OOut} (k : evOp rec g s h o = some r) (hr : ∀ d, r ≠ .defer d) : ∀ c, o ≠ .defer c := by
  rintro c rfl
  have hM : ∀ r', evM g s h (.defer c) = some r' → ∃ d, r' = .defer d := fun r' hr' => by
    obtain ⟨cl, ⟨xs⟩, ts⟩ := c
    cases cl with
    | value f =>
      simp only [evM] at hr'
      split at hr'
      · injection hr' with hr'; exact ⟨_, hr'.symm⟩
      · cases hr'
    | invoke a b => simp only [evM] at hr'; cases hr'
    | builtin b => simp only [evM] at hr'; cases hr'
  have hP : evP g.G g.T s (.defer c) = none := rfl
  unfold evOp evO at k
  rw [hP] at k
  cases hq : evM g s h (.defer c) with
  | none => rw [hq] at k; cases k
  | some r' =>
    obtain ⟨d, rfl⟩ := hM r' hq
    rw [hq] at k
    injection k with k
    exact hr d k.symm
/-- What holds when an operation has gone. -/
def OK1 (E : Env) (h : H) (w : World) (next : Act → World → Prop) (Q : Exit → Act → World → Prop) (a : Act) (d : Option Tmp) : OOut → Prop
  | .val v h' => ∀ E' w' u, Stp E h w E' h' w' → VR E' v u → next (a.put d u) w'
  | .panic vs h' => ∀ E' w' ps, Stp E h w E' h' w' → PEs E' vs ps → Q (.panic ps) a w'
  | .defer x => ∀ u, DR E x u → next ({ a with defers := u :: a.defers }.put d Go.undef) w
include hg in
theorem evOp_ok {rec : Rec} (hrec : RecOK P g rec) (st : Sat E h w) (hA : AR g.G E s n a) {o : Oper} {r : OOut} (k : evOp rec g s h o.op = some r) {rb : Option Nat} (hd : (∃ d, r = .defer d) → rb = none)
    {next : Act → World → Prop} {Q : Exit → Act → World → Prop} (hok : OK1 E h w next Q a o.dst r) : o.wpIn (Fw rb) 0 P a w next Q := by
  refine ⟨fun _ _ => trivial, ?_⟩
  have hsem : o.semAt (Fw rb).round a.eval = execOp a.eval o := by
    by_cases hr : ∃ d, r = .defer d
    · have := hd hr; subst this; rfl
    · exact Oper.semAt_eq _ _ _ (evOp_nodefer k fun d hd' => hr ⟨d, hd'⟩)
  rw [hsem]
  unfold evOp at k
  split at k
  · rename_i v h' hq
    injection k with k; subst k
    obtain ⟨z, w', E', h1, h2, h3⟩ := evO_ok hg st hA hq
    rw [h1]
    exact hok E' w' z h2 h3
  · rename_i h' hq
    injection k with k; subst k
    obtain ⟨w', E', h1, h2⟩ := evO_ok hg st hA hq
    rw [h1]
    exact hok E' w' _ h2 VR.undef
  · rename_i c m rs f args hq
    obtain ⟨hf, us, h1, h2⟩ := evO_ok hg st hA hq
    rw [h1]
    refine ⟨(fun h => by cases h), ?_⟩
    cases hq2 : rec (.call c m rs args h) with
    | none => rw [hq2] at k; cases k
    | some out =>
      rw [hq2] at k
      have hT := hrec _ _ hq2
      cases out with
      | code e s' ds' h' => cases k
      | fin e h' =>
        have hC := hT E w us f st hA.ge h2 hf
        cases e with
        | ret v =>
          simp only [ofFin, Option.some.injEq] at k; subst k
          refine CallsIn.mono (F := Fw rb) hC fun en w' hp => ?_
          obtain ⟨E', hs, u, rfl, hv⟩ := hp
          exact hok E' w' u hs hv
        | panic vs =>
          simp only [ofFin, Option.some.injEq] at k; subst k
          refine CallsIn.mono (F := Fw rb) hC fun en w' hp => ?_
          obtain ⟨E', hs, ps, rfl, hv⟩ := hp
          exact hok E' w' ps hs hv
  · rename_i z args hq
    obtain ⟨en, us, he, h2, h1⟩ := evO_ok hg st hA hq
    rw [h1]
    cases hq2 : rec (.round z args h) with
    | none => rw [hq2] at k; cases k
    | some out =>
      rw [hq2] at k
      have hT := hrec _ _ hq2
      cases out with
      | code e s' ds' h' => cases k
      | fin e h' =>
        obtain ⟨f, tmps, asg, body, hr, hR⟩ := hT E w us en st hA.ge h2 he
        rw [hr]
        refine ⟨(fun h => by cases h), ?_⟩
        cases e with
        | ret v =>
          simp only [ofFin, Option.some.injEq] at k; subst k
          refine RoundIn.mono (F := Fw rb) hR fun en w' hp => ?_
          obtain ⟨E', hs, u, rfl, hv⟩ := hp
          exact hok E' w' u hs hv
        | panic vs =>
          simp only [ofFin, Option.some.injEq] at k; subst k
          refine RoundIn.mono (F := Fw rb) hR fun en w' hp => ?_
          obtain ⟨E', hs, ps, rfl, hv⟩ := hp
          exact hok E' w' ps hs hv
  · rename_i v hq
    injection k with k; subst k
    obtain ⟨u, h1, h2⟩ := evO_ok hg st hA hq
    rw [h1]
    exact hok E w _ (Stp.refl st) ⟨u, [], rfl, h2, rfl⟩
  · rename_i d hq
    injection k with k; subst k
    obtain ⟨u, h1, h2⟩ := evO_ok hg st hA hq
    rw [h1]
    exact hok u h2
  · cases k

/-- A region's operations, one behind the other. -/
theorem CPost.trans {e : AEx} {s' : Sl} {ds' : List AD} {h1 h2 : H} {E1 : Env} {w1 : World} (st : Stp E h w E1 h1 w1) : ∀ ex a w', CPost n E1 h1 w1 e s' ds' h2 ex a w' → CPost n E h w e s' ds' h2 ex a w' :=
  fun ex a w' ⟨E', k1, k2⟩ => ⟨E', st.trans k1, k2⟩
theorem wpOpsIn_mono {F : Fence} {m : Nat} {ops : Array Oper} {Q Q' : Exit → Act → World → Prop} (hq : ∀ e a w, Q e a w → Q' e a w) : ∀ (l : List Nat) (a : Act) (w : World), wpOpsIn F m P ops Q l a w → wpOpsIn F m P ops Q' l a w
  | [], a, w, h => hq _ _ _ h
  | i :: rest, a, w, h => by
    simp only [wpOpsIn] at h ⊢
    split
    · rename_i hx; rw [hx] at h; exact wpOpsIn_mono hq rest a w h
    · rename_i o hx
      rw [hx] at h
      simp only at h
      split
      · rename_i hw
        rw [if_pos hw] at h
        refine ⟨h.1, ?_⟩
        have h := h.2
        generalize (o.semAt F.round a.eval).run P w = r at *
        cases r with
        | ok x w' =>
          cases x <;> simp only [Oper.uponIn] at h ⊢ <;> first
            | exact wpOpsIn_mono hq rest _ _ h
            | exact ⟨h.1, CallsIn.mono h.2 (fun e w'' he => by
                cases e with
                | returned v => exact wpOpsIn_mono hq rest _ _ he
                | panicked c => exact hq _ _ _ he
                | outgrown => obtain ⟨a0, w0, h0⟩ := he; exact ⟨a0, w0, hq _ _ _ h0⟩)⟩
            | exact ⟨h.1, RowsIn.mono h.2 (fun _ _ he => wpOpsIn_mono hq rest _ _ he)⟩
            | exact ⟨h.1, RoundIn.mono h.2 (fun e w'' he => by
                cases e with
                | returned v => exact wpOpsIn_mono hq rest _ _ he
                | panicked c => exact hq _ _ _ he
                | outgrown => obtain ⟨a0, w0, h0⟩ := he; exact ⟨a0, w0, hq _ _ _ h0⟩)⟩
        | halt x w' => cases x <;> simp only [Oper.uponIn] at h ⊢ <;> first | exact h | exact hq _ _ _ h
      · rename_i hw
        rw [if_neg hw] at h
        exact ⟨h.1, wpOpsIn_mono hq rest _ _ h.2⟩
include hg in
theorem evOps_ok {rec : Rec} (hrec : RecOK P g rec) {rd : Option Nat} {ops : Array Oper} : ∀ (rest : List Oper) (i : Nat) (E : Env) (h : H) (w : World) (s : Sl) (ds : List AD) (a : Act) {e : AEx} {s' : Sl} {ds' : List AD} {h' : H} {rb : Option Nat}, rest = ops.toList.drop i →
    evOps rec g n rd ops.toList rest s ds h = some (.code e s' ds' h') → Sat E h w → GE g.G E → SR E s n a.tmps → DRs E ds a.defers → RD E rd rb → wpOpsIn (Fw rb) 0 P ops (CPost n E h w e s' ds' h') (List.range' i rest.length) a w
  | [], i, E, h, w, s, ds, a, e, s', ds', h', rb, hr, k, st, ge, hS, hD, hR => by
    simp only [evOps, Option.some.injEq, Out.code.injEq] at k
    obtain ⟨rfl, rfl, rfl, rfl⟩ := k
    exact ⟨E, Stp.refl st, rfl, .inl hS, hD⟩
  | o :: r, i, E, h, w, s, ds, a, e, s', ds', h', rb, hr, k, st, ge, hS, hD, hR => by
    have ho : ops[i]? = some o := by
      have h1 := congrArg (·[0]?) hr
      simp only [List.getElem?_cons_zero, List.getElem?_drop, Nat.add_zero] at h1
      rw [← Array.getElem?_toList]; exact h1.symm
    have hr' : r = ops.toList.drop (i + 1) := by
      have h1 := congrArg List.tail hr
      simp only [List.tail_cons, List.tail_drop] at h1
      exact h1
    simp only [List.length_cons, List.range'_succ, wpOpsIn, ho]
    have hw := want_ok (ops := ops) hS o
    simp only [evOps] at k
    split at k
    · rename_i hwa
      rw [hwa] at hw
      rw [if_neg (by simp [hw])]
      split at k
      · rename_i s1 hs1
        exact ⟨fun _ _ => trivial, evOps_ok hrec r (i + 1) E h w s1 ds _ hr' k st ge (put_ok hs1 hS VR.undef) (by rw [put_defers]; exact hD) hR⟩
      · cases k
    · rename_i hwa
      rw [hwa] at hw
      rw [if_pos hw]
      split at k
      · rename_i v h1 hq
        split at k
        · rename_i s1 hs1
          refine evOp_ok hg hrec st ⟨hS, ge⟩ hq (fun ⟨d, hd⟩ => by cases hd) fun E1 w1 u hst hv => ?_
          exact wpOpsIn_mono (CPost.trans hst) _ _ _ (evOps_ok hrec r (i + 1) E1 h1 w1 s1 ds _ hr' k hst.sat (ge.mono hst.le) (put_ok hs1 (hS.mono hst.le) hv) (by rw [put_defers]; exact hD.mono hst.le) (hR.mono hst.le))
        · cases k
      · rename_i vs h1 hq
        simp only [Option.some.injEq, Out.code.injEq] at k
        obtain ⟨rfl, rfl, rfl, rfl⟩ := k
        refine evOp_ok hg hrec st ⟨hS, ge⟩ hq (fun ⟨d, hd⟩ => by cases hd) fun E1 w1 ps hst hp => ?_
        exact ⟨E1, hst, ⟨ps, rfl, hp⟩, .inl (hS.mono hst.le), hD.mono hst.le⟩
      · rename_i d hq
        split at k
        · rename_i s1 hs1
          have hrb : rb = none := hR
          refine evOp_ok hg hrec st ⟨hS, ge⟩ hq (fun _ => hrb) fun u hu => ?_
          exact evOps_ok hrec r (i + 1) E h w s1 (d :: ds) _ hr' k st ge (put_ok (a := { a with defers := u :: a.defers }) hs1 hS VR.undef) (by rw [put_defers]; exact ⟨u, _, rfl, hu, hD⟩) hR
        · cases k
      · cases k
end
end Go.Ev
