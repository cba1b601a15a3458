/- Words of this claim: what the evaluator says of a call, said of the machine. -/
import Derived.Test.YtpafhjaidpmeeaaGreatDoorEv21
set_option linter.unusedVariables false
set_option linter.unusedSimpArgs false
namespace Go.Ev
open Go.RowKit

/-- Nothing is known but the globals' blocks. -/
def E00 (G : Nat) : Env := fun z r => if z < G ∧ r = 0 then some ⟨z, 0, 0, 0⟩ else none
def h00 (G : Nat) : H := ⟨.e, G⟩
theorem E00_ge (G : Nat) : GE G (E00 G) := fun g hg => ⟨⟨g, 0, 0, 0⟩, by simp [E00, hg], rfl, rfl⟩
theorem h00_img (G : Nat) (E : Env) (k : Nat) : ¬ Img E (h00 G) k := fun ⟨z, o, e, h, _⟩ => by rw [show (h00 G).t.get z = none from Tr.get_e z] at h; cases h
theorem E00_sat (G : Nat) (w : World) : Sat (E00 G) (h00 G) w :=
  ⟨fun z o h => (by rw [show (h00 G).t.get z = none from Tr.get_e z] at h; cases h), fun z z' o o' e e' h => (by rw [show (h00 G).t.get z = none from Tr.get_e z] at h; cases h), fun z r e h => by
    refine ⟨?_, fun o ho => by rw [show (h00 G).t.get z = none from Tr.get_e z] at ho; cases ho⟩
    unfold E00 at h
    split at h
    · rename_i hc; exact hc.1
    · cases h⟩
theorem Sat.grow {E : Env} {h : H} {w w' : World} (s : Sat E h w) (hw : ∀ k, k < w.heap.size → w'.heap[k]? = w.heap[k]?) : Sat E h w' :=
  ⟨fun z o hz => let ⟨e, ob, h1, h2, h3⟩ := s.obj z o hz; ⟨e, ob, h1, by rw [hw _ (Array.getElem?_eq_some_iff.1 h2).1]; exact h2, h3⟩, s.inj, s.fresh⟩
section
variable {P : Program} {g : Pg} (hg : POK P g)
include hg in
theorem evF_ok {fuel : Nat} {f : FuncId} {args : List AV} {h h' : H} {e : AEnd} (k : evF drD g fuel f args h = some (.fin e h')) {E : Env} {w : World} (st : Sat E h w) (ge : GE g.G E) {us : List Value} (ha : VRs E args us) : Calls P f us.toArray w (FPost E h w e h') := by
  unfold evF at k
  split at k
  · rename_i c n rs hF
    exact callsIn_wide.1 (ev_ok hg (drD_ok hg) fuel _ _ k E w us f st ge ha (hg.F f _ hF))
  · cases k
include hg in
/-- A call that begins with nothing, and gives what is no address. -/
theorem evF_flat {fuel : Nat} {f : FuncId} {args : List AV} {h' : H} {v : AV} (k : evF drD g fuel f args (h00 g.G) = some (.fin (.ret v) h')) {w : World} {us : List Value} (ha : VRs (E00 g.G) args us) {u : Value} (hv : ∀ E u', VR E v u' → u' = u) :
    Calls P f us.toArray w fun e w' => e = .returned u ∧ Below w.heap.size w w' :=
  Calls.mono (evF_ok hg k (E00_sat _ w) (E00_ge _) ha) fun e w' ⟨E', hst, u', he, hu⟩ => ⟨by rw [he, hv E' u' hu], hst.below (h00_img _ _)⟩
end
theorem FT.of_ok {P : Program} {xs : List (FuncId × XK)} (hx : ∀ x ∈ xs, FIok P x.1 (.ext x.2)) : FOK P (FT.of P xs) := fun f fi h => by
  unfold FT.at at h
  split at h
  · rename_i x hq
    subst h
    have h1 := Tr.ofL_get _ _ _ _ hq
    rw [List.getElem?_map] at h1
    cases h2 : P.funcs.toList.zipIdx[f]? with
    | none => rw [h2] at h1; cases h1
    | some y =>
      obtain ⟨fn, i⟩ := y
      rw [h2] at h1
      simp only [Option.map_some, Option.some.injEq] at h1
      rw [List.getElem?_zipIdx] at h2
      cases h3 : P.funcs.toList[f]? with
      | none => rw [h3] at h2; cases h2
      | some fn' =>
        rw [h3] at h2
        simp only [Option.map_some, Nat.zero_add, Option.some.injEq, Prod.mk.injEq] at h2
        obtain ⟨rfl, rfl⟩ := h2
        have hfn : P.funcs[f]? = some fn' := by rw [← Array.getElem?_toList]; exact h3
        cases h4 : xs.lookup f with
        | some k =>
          rw [h4] at h1
          simp only [Option.some.injEq] at h1
          subst h1
          have : (f, k) ∈ xs := by
            clear hx hq h3 hfn
            induction xs with
            | nil => simp at h4
            | cons a r ih =>
              obtain ⟨b, c⟩ := a
              rw [List.lookup_cons] at h4
              split at h4
              · rename_i hb
                have hb := eq_of_beq hb
                injection h4 with h4
                subst hb; subst h4; simp
              · exact List.mem_cons_of_mem _ (ih h4)
          exact hx _ this
        | none =>
          rw [h4] at h1
          simp only [fiOf] at h1
          split at h1
          · rename_i c hc
            split at h1
            · cases h1
            · rename_i hn
              injection h1 with h1; subst h1
              exact ⟨fn', hfn, by simpa using hn, hc, rfl, rfl⟩
          · cases h1
  · cases h
end Go.Ev
