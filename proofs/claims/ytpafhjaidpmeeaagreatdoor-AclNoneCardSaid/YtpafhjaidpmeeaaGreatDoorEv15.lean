/- Words of this claim: what the evaluator gives is what the machine does: code, calls, rounds. -/
import Derived.Test.YtpafhjaidpmeeaaGreatDoorEv14
set_option linter.unusedVariables false
set_option linter.unusedSimpArgs false
namespace Go.Ev
open Go.RowKit

section
variable {P : Program} {g : Pg} (hg : POK P g) {E : Env} {h : H} {w : World} {s : Sl} {n : Nat} {a : Act}

/-! ### Loops, scopes -/
theorem LoopW.of {F : Fence} {c : Code} {Q : Exit → Act → World → Prop} (k : c.wpIn F 0 P (Exit.then (LoopW F P c Q) Q) a w) : LoopW F P c Q a w := fun b k' cs hro hb hr => by
  obtain ⟨e, a₁, w₁, hq, harr⟩ := k b (.inLoop c :: k') cs hro hb hr
  cases e with
  | normal =>
    obtain ⟨e₂, a₂, w₂, hq₂, harr₂⟩ := hq b k' cs hro hb hr
    exact ⟨e₂, a₂, w₂, hq₂, .of_steps (StepsIn.trans harr (.one (fenced_calm hb hr rfl) stepR_inLoop)) harr₂⟩
  | exit id => exact ⟨_, a₁, w₁, hq, .pass (x := .inLoop c) rfl (fun _ _ => .inl (by simp)) harr⟩
  | goto l => exact ⟨_, a₁, w₁, hq, .pass (x := .inLoop c) rfl (fun _ _ => .inl (by simp)) harr⟩
  | ret => exact ⟨_, a₁, w₁, hq, .pass (x := .inLoop c) rfl (fun _ _ => .inl (by simp)) harr⟩
  | panic ch => exact ⟨_, a₁, w₁, hq, .pass (x := .inLoop c) rfl (fun _ _ => .inl (by simp)) harr⟩
  | outgrown => exact ⟨_, a₁, w₁, hq, .pass (x := .inLoop c) rfl (fun _ _ => .inl (by simp)) harr⟩
theorem CW.mono {F : Fence} {Q Q' : Exit → Act → World → Prop} {c : Code} (hq : ∀ e a w, Q e a w → Q' e a w) (k : CW F P Q a w c) : CW F P Q' a w c := by
  cases c <;> first
    | (exact fun b k' cs hro hb hr => let ⟨e, a', w', q, r⟩ := k b k' cs hro hb hr; ⟨e, a', w', hq _ _ _ q, r⟩)
    | exact wpIn_mono k hq
theorem stepR_scope' {b : Frame} {k : List Item} {cs : List Frame} {c : Code} :
    step P (lone (b.atR a (.code (.scope c) :: k)) cs w) = .next (lone (b.atR a (.code c :: .inScope c :: k)) cs w) :=
  step_lone_go (by simp [stepG, stepG.exec, Frame.atR])
theorem stepR_inScope' {b : Frame} {k : List Item} {cs : List Frame} {c : Code} :
    step P (lone (b.atR a (.inScope c :: k)) cs w) = .next (lone (b.atR a k) cs w) :=
  step_lone_go (by simp [stepG, stepG.exec, Frame.atR])
theorem wpIn_scope' {F : Fence} {c : Code} {Q : Exit → Act → World → Prop} (k : c.wpIn F 0 P (fun e a w => (∀ l, e ≠ .goto l) ∧ Q e a w) a w) : (Code.scope c).wpIn F 0 P Q a w := by
  intro b k' cs hro hb hr
  have h0 : (lone (b.atR a (.code (.scope c) :: k')) cs w).fenced P F := fenced_calm hb hr rfl
  obtain ⟨e, a₁, w₁, hq, harr⟩ := k b (.inScope c :: k') cs hro hb hr
  cases e with
  | normal => exact ⟨.normal, a₁, w₁, hq.2, .head h0 stepR_scope' (StepsIn.trans harr (.one (fenced_calm hb hr rfl) stepR_inScope'))⟩
  | exit id =>
    have hx : exitTo id (.inScope c :: k') = exitTo id k' := by simp [exitTo]
    exact ⟨.exit id, a₁, w₁, hq.2, fun k₁ hk => .head h0 stepR_scope' (harr.1 k₁ (by rw [hx]; exact hk)),
      fun hr' hk => let ⟨k₂, h1, h2⟩ := harr.2 hr' (by rw [hx]; exact hk); ⟨k₂, h1, .head h0 stepR_scope' h2⟩⟩
  | goto l => exact absurd rfl (hq.1 l)
  | ret => exact ⟨_, a₁, w₁, hq.2, .of_steps (.one h0 stepR_scope') harr⟩
  | panic ch => exact ⟨_, a₁, w₁, hq.2, .of_steps (.one h0 stepR_scope') harr⟩
  | outgrown => exact ⟨_, a₁, w₁, hq.2, .of_steps (.one h0 stepR_scope') harr⟩


/-! ### Code -/
theorem out_code {rec : Rec} (hrec : RecOK P g rec) {rd : Option Nat} {c : Code} {ds : List AD} {o : Out} (k : rec (.code n rd c s ds h) = some o) : ∃ e s' ds' h', o = .code e s' ds' h' := by
  have := hrec _ _ k
  cases o with
  | code e s' ds' h' => exact ⟨_, _, _, _, rfl⟩
  | fin e h' => exact this.elim
theorem CPost.normal {s' : Sl} {ds' : List AD} {h' : H} {ex : Exit} {w' : World} {a' : Act} (k : CPost n E h w .normal s' ds' h' ex a' w') : ex = .normal ∧ ∃ E', Stp E h w E' h' w' ∧ SR E' s' n a'.tmps ∧ DRs E' ds' a'.defers := by
  obtain ⟨E', k1, k2, k3, k4⟩ := k
  refine ⟨k2, E', k1, ?_, k4⟩
  rcases k3 with k3 | ⟨⟨vs, hv⟩, _⟩
  · exact k3
  · cases hv
/-- One behind the other. -/
theorem seq_ok {rec : Rec} (hrec : RecOK P g rec) {rd rb : Option Nat} {c b : Code} {ds : List AD} {e : AEx} {s' : Sl} {ds' : List AD} {h' : H} (k : seqK rec n rd b (rec (.code n rd c s ds h)) = some (.code e s' ds' h'))
    (st : Sat E h w) (ge : GE g.G E) (hS : SR E s n a.tmps) (hD : DRs E ds a.defers) (hR : RD E rd rb) : c.wpIn (Fw rb) 0 P (Exit.then (fun a w2 => CW (Fw rb) P (CPost n E h w e s' ds' h') a w2 b) (CPost n E h w e s' ds' h')) a w := by
  cases hq : rec (.code n rd c s ds h) with
  | none => rw [hq] at k; cases k
  | some o =>
    obtain ⟨e1, s1, ds1, h1, rfl⟩ := out_code hrec hq
    rw [hq] at k
    have h2 := (hrec _ _ hq E w a rb st ge hS hD hR).wp
    cases e1 with
    | normal =>
      simp only [seqK] at k
      refine wpIn_mono h2 fun ex a' w' hp => ?_
      obtain ⟨rfl, E1, k1, k2, k3⟩ := hp.normal
      have h3 := hrec _ _ k E1 w' a' rb k1.sat (ge.mono k1.le) k2 k3 (hR.mono k1.le)
      show CW _ _ _ _ _ _
      exact CW.mono (CPost.trans k1) h3
    | exit id =>
      simp only [seqK, Option.some.injEq, Out.code.injEq] at k
      obtain ⟨rfl, rfl, rfl, rfl⟩ := k
      refine wpIn_mono h2 fun ex a' w' hp => ?_
      have hp' := hp
      obtain ⟨E1, k1, k2, _⟩ := hp
      simp only [ExR] at k2; subst k2
      exact hp'
    | goto id =>
      simp only [seqK, Option.some.injEq, Out.code.injEq] at k
      obtain ⟨rfl, rfl, rfl, rfl⟩ := k
      refine wpIn_mono h2 fun ex a' w' hp => ?_
      have hp' := hp
      obtain ⟨E1, k1, k2, _⟩ := hp
      simp only [ExR] at k2; subst k2
      exact hp'
    | ret =>
      simp only [seqK, Option.some.injEq, Out.code.injEq] at k
      obtain ⟨rfl, rfl, rfl, rfl⟩ := k
      refine wpIn_mono h2 fun ex a' w' hp => ?_
      have hp' := hp
      obtain ⟨E1, k1, k2, _⟩ := hp
      simp only [ExR] at k2; subst k2
      exact hp'
    | panic vs =>
      simp only [seqK, Option.some.injEq, Out.code.injEq] at k
      obtain ⟨rfl, rfl, rfl, rfl⟩ := k
      refine wpIn_mono h2 fun ex a' w' hp => ?_
      have hp' := hp
      obtain ⟨E1, k1, ⟨ps, rfl, _⟩, _⟩ := hp
      exact hp'
theorem block_ok {rec : Rec} (hrec : RecOK P g rec) {rd rb : Option Nat} {c : Code} {id : Nat} {ds : List AD} {e : AEx} {s' : Sl} {ds' : List AD} {h' : H} (k : blockK id (rec (.code n rd c s ds h)) = some (.code e s' ds' h'))
    (st : Sat E h w) (ge : GE g.G E) (hS : SR E s n a.tmps) (hD : DRs E ds a.defers) (hR : RD E rd rb) : (Code.block id c).wpIn (Fw rb) 0 P (CPost n E h w e s' ds' h') a w := by
  cases hq : rec (.code n rd c s ds h) with
  | none => rw [hq] at k; cases k
  | some o =>
    obtain ⟨e1, s1, ds1, h1, rfl⟩ := out_code hrec hq
    rw [hq] at k
    have h2 := (hrec _ _ hq E w a rb st ge hS hD hR).wp
    refine wpIn_block (wpIn_mono h2 fun ex a' w' hp => ?_)
    have hp' := hp
    obtain ⟨E1, k1, k2, k3, k4⟩ := hp
    cases e1 with
    | exit j =>
      simp only [ExR] at k2; subst k2
      simp only [Exit.inBlock]
      simp only [blockK] at k
      split at k
      · rename_i hj
        have hj := Nat.eq_of_beq_eq_true hj
        simp only [Option.some.injEq, Out.code.injEq] at k
        obtain ⟨rfl, rfl, rfl, rfl⟩ := k
        rw [if_pos hj]
        refine ⟨E1, k1, rfl, ?_, k4⟩
        rcases k3 with k3 | ⟨⟨vs, hv⟩, _⟩
        · exact .inl k3
        · cases hv
      · rename_i hj
        have hj : ¬ j = id := fun e => by subst e; simp at hj
        simp only [Option.some.injEq, Out.code.injEq] at k
        obtain ⟨rfl, rfl, rfl, rfl⟩ := k
        rw [if_neg hj]
        exact hp'
    | normal =>
      simp only [ExR] at k2; subst k2
      simp only [blockK, Option.some.injEq, Out.code.injEq] at k
      obtain ⟨rfl, rfl, rfl, rfl⟩ := k
      exact hp'
    | goto l =>
      simp only [ExR] at k2; subst k2
      simp only [blockK, Option.some.injEq, Out.code.injEq] at k
      obtain ⟨rfl, rfl, rfl, rfl⟩ := k
      exact hp'
    | ret =>
      simp only [ExR] at k2; subst k2
      simp only [blockK, Option.some.injEq, Out.code.injEq] at k
      obtain ⟨rfl, rfl, rfl, rfl⟩ := k
      exact hp'
    | panic vs =>
      obtain ⟨ps, rfl, _⟩ := k2
      simp only [blockK, Option.some.injEq, Out.code.injEq] at k
      obtain ⟨rfl, rfl, rfl, rfl⟩ := k
      exact hp'
theorem scope_ok {rec : Rec} (hrec : RecOK P g rec) {rd rb : Option Nat} {c : Code} {ds : List AD} {e : AEx} {s' : Sl} {ds' : List AD} {h' : H} (k : scopeK (rec (.code n rd c s ds h)) = some (.code e s' ds' h'))
    (st : Sat E h w) (ge : GE g.G E) (hS : SR E s n a.tmps) (hD : DRs E ds a.defers) (hR : RD E rd rb) : (Code.scope c).wpIn (Fw rb) 0 P (CPost n E h w e s' ds' h') a w := by
  cases hq : rec (.code n rd c s ds h) with
  | none => rw [hq] at k; cases k
  | some o =>
    obtain ⟨e1, s1, ds1, h1, rfl⟩ := out_code hrec hq
    rw [hq] at k
    have h2 := (hrec _ _ hq E w a rb st ge hS hD hR).wp
    refine wpIn_scope' (wpIn_mono h2 fun ex a' w' hp => ?_)
    have hp' := hp
    obtain ⟨E1, k1, k2, k3, k4⟩ := hp
    cases e1 with
    | goto l => cases k
    | exit j =>
      simp only [ExR] at k2; subst k2
      simp only [scopeK, Option.some.injEq, Out.code.injEq] at k
      obtain ⟨rfl, rfl, rfl, rfl⟩ := k
      exact ⟨by simp, hp'⟩
    | normal =>
      simp only [ExR] at k2; subst k2
      simp only [scopeK, Option.some.injEq, Out.code.injEq] at k
      obtain ⟨rfl, rfl, rfl, rfl⟩ := k
      exact ⟨by simp, hp'⟩
    | ret =>
      simp only [ExR] at k2; subst k2
      simp only [scopeK, Option.some.injEq, Out.code.injEq] at k
      obtain ⟨rfl, rfl, rfl, rfl⟩ := k
      exact ⟨by simp, hp'⟩
    | panic vs =>
      obtain ⟨ps, rfl, _⟩ := k2
      simp only [scopeK, Option.some.injEq, Out.code.injEq] at k
      obtain ⟨rfl, rfl, rfl, rfl⟩ := k
      exact ⟨by simp, hp'⟩
end
end Go.Ev
