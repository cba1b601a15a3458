/- Words of this claim: the evaluator's operations that look at no memory: slices of slices and texts, structs laid out, conversions, the rest; all of them in one. -/
import Derived.Test.YtpafhjaidpmeeaaGreatDoorEv4
import Derived.Laws.Strings2
set_option linter.unusedVariables false
set_option linter.unusedSimpArgs false
namespace Go.Ev
open Go.RowKit

section
variable {P : Program} {T : TT} (hT : TOK P T) {E : Env} (w : World)

/-! ### Slices -/
def bnd (a : AV) (y : Nat) : Option Nat := match a with
  | .int _ (.ofNat m) => match Nat.ble m y with
    | true => some m
    | false => none
  | _ => none
theorem bnd_le {a : AV} {y m : Nat} (h : bnd a y = some m) : m ≤ y := by
  unfold bnd at h
  split at h
  · split at h
    · rename_i hb; injection h with h; subst h; exact Nat.le_of_ble_eq_true hb
    · cases h
  · cases h
theorem bnd_ok {a : AV} {y m k : Nat} {u : Value} (h : bnd a y = some m) (hu : VR E a u) (hk : m ≤ k) (c : BoundsCode) : (Instr.sliceBound u k c).run P w = .ok m w := by
  unfold bnd at h
  split at h
  · split at h
    · rename_i hb; injection h with h; subst h
      simp only [VR] at hu; subst hu
      simp only [Instr.sliceBound, asIntOf, Sem.run_bind, Sem.run_pure, Result.andThen_ok, Int.ofNat_eq_natCast, Int.natCast_nonneg, true_and, Sem.run_ite, Int.toNat_natCast]
      rw [if_pos (by omega)]
    · cases h
  · cases h
/-- The bounds of a slice expression: what is left out is told. -/
def bnds (lo hi : Option AV) (n lim : Nat) : Option (Nat × Nat) :=
  match (match hi with
    | none => some n
    | some v => bnd v lim) with
  | none => none
  | some h => match lo with
    | none => some (0, h)
    | some v => match bnd v h with
      | some l => some (l, h)
      | none => none
/-- What optional operands are. -/
def VO (E : Env) : Option AV → Option Value → Prop
  | none, u => u = none
  | some a, u => ∃ v, u = some v ∧ VR E a v
theorem bnds_ok {lo hi : Option AV} {ulo uhi : Option Value} {n lim k l h : Nat} (hb : bnds lo hi n lim = some (l, h)) (hlo : VO E lo ulo) (hhi : VO E hi uhi) (hlk : lim ≤ k) (b : Bool) (hl : l ≤ h := by omega) :
    (Instr.sliceBounds b n k ulo uhi none).run P w = .ok (l, h, k) w := by
  unfold bnds at hb
  cases hi with
  | none =>
    simp only [VO] at hhi; subst hhi
    cases lo with
    | none =>
      simp only [VO] at hlo; subst hlo
      simp only [Option.some.injEq, Prod.mk.injEq] at hb
      obtain ⟨rfl, rfl⟩ := hb
      rfl
    | some a =>
      obtain ⟨v, rfl, hv⟩ := hlo
      simp only at hb
      split at hb
      · rename_i l' hl'
        simp only [Option.some.injEq, Prod.mk.injEq] at hb
        obtain ⟨rfl, rfl⟩ := hb
        simp only [Instr.sliceBounds, Sem.run_bind, Sem.run_pure, Result.andThen_ok, bnd_ok w hl' hv (bnd_le hl')]
      · cases hb
  | some c =>
    obtain ⟨uc, rfl, hc⟩ := hhi
    simp only at hb
    split at hb
    · cases hb
    · rename_i h' hh
      have hrunh := fun q => bnd_ok (P := P) w hh hc (Nat.le_trans (bnd_le hh) hlk) q
      cases lo with
      | none =>
        simp only [VO] at hlo; subst hlo
        simp only [Option.some.injEq, Prod.mk.injEq] at hb
        obtain ⟨rfl, rfl⟩ := hb
        simp only [Instr.sliceBounds, Sem.run_bind, Sem.run_pure, Result.andThen_ok, hrunh]
      | some a =>
        obtain ⟨v, rfl, hv⟩ := hlo
        simp only at hb
        split at hb
        · rename_i l' hl'
          simp only [Option.some.injEq, Prod.mk.injEq] at hb
          obtain ⟨rfl, rfl⟩ := hb
          simp only [Instr.sliceBounds, Sem.run_bind, Sem.run_pure, Result.andThen_ok, hrunh, bnd_ok w hl' hv (bnd_le hl')]
        · cases hb
theorem bnds_le {lo hi : Option AV} {n lim l h : Nat} (hb : bnds lo hi n lim = some (l, h)) (hn : n ≤ lim) : l ≤ h ∧ h ≤ lim := by
  unfold bnds at hb
  split at hb
  · cases hb
  · rename_i h' hh
    have h1 : h' ≤ lim := by
      cases hi with
      | none => simp only [Option.some.injEq] at hh; omega
      | some a => exact bnd_le hh
    cases lo with
    | none => simp only [Option.some.injEq, Prod.mk.injEq] at hb; omega
    | some a =>
      simp only at hb
      split at hb
      · rename_i l' hl'
        have := bnd_le hl'
        simp only [Option.some.injEq, Prod.mk.injEq] at hb; omega
      · cases hb

def aSlice (T : TT) (t : TypeId) (x : AV) (lo hi mx : Option AV) : Option AV := match T.at t with
  | none => none
  | some td => match td.kd, x, mx with
    | .str, .str s, none => match bnds lo hi s.length s.length with
      | some (l, h) => some (.str ((s.drop l).take (h - l)))
      | none => none
    | .slice e, .slN, none => match bnds lo hi 0 0, T.at e with
      | some _, some _ => some .slN
      | _, _ => none
    | .slice e, .slE, none => match bnds lo hi 0 0, T.at e with
      | some _, some _ => some .slE
      | _, _ => none
    | .slice e, .sl z r o n none s, none => match bnds lo hi n n, T.at e with
      | some (l, h), some ed => match Nat.beq ed.size s with
        | false => none
        | true => match l with
          | 0 => some (.sl z r o h none s)
          | l + 1 => match Nat.blt (l + 1) n with
            | true => some (.sl z r (o + (l + 1) * s) (h - (l + 1)) none s)
            | false => some .slE
      | _, _ => none
    | .slice e, .sl z r o n (some k) s, none => match Nat.ble n k, bnds lo hi n k, T.at e with
      | true, some (l, h), some ed => match Nat.beq ed.size s with
        | false => none
        | true => match Nat.beq l k with
          | true => some (.sl z r o 0 (some 0) s)
          | false => some (.sl z r (o + l * s) (h - l) (some (k - l)) s)
      | _, _, _ => none
    | .slice e, .sl z r o n c s, some m => match bnd m n, T.at e with
      | some m, some ed => match Nat.beq ed.size s, hi with
        | true, some hi => match bnds lo (some hi) 0 m with
          | some (l, h) => match Nat.beq l m with
            | true => some (.sl z r o 0 (some 0) s)
            | false => some (.sl z r (o + l * s) (h - l) (some (m - l)) s)
          | none => none
        | _, _ => none
      | _, _ => none
    | _, _, _ => none
theorem mkS_extract (s : List Nat) (l h : Nat) : (mkS s).extract l h = mkS ((s.drop l).take (h - l)) := by
  unfold mkS
  rw [ByteArray.extract_mk]
  simp [List.map_drop, List.map_take]
theorem run_slice3 {t e : TypeId} {td ed : TD} (hu : P.underlying t = some (.slice e)) (hs : (sizeOf e).run P w = .ok ed.size w) {a : Option Addr} {n k l h m : Nat} {lo hi mx : Option Value} (hb : (Instr.sliceBounds true n k lo hi mx).run P w = .ok (l, h, m) w) :
    (Instr.sliceAt t (.slice a n k) lo hi mx).run P w = .ok (.slice (if m = l then a else a.map (·.add (l * ed.size))) (h - l) (m - l)) w := by
  simp only [Instr.sliceAt, Sem.run_bind, run_underlying hu, Result.andThen_ok, Instr.slice, hb, hs, Sem.run_pure]
include hT in
theorem aSlice_ok {t : TypeId} {x r : AV} {lo hi mx : Option AV} {u : Value} {ulo uhi umx : Option Value} (h : aSlice T t x lo hi mx = some r) (hx : VR E x u) (hlo : VO E lo ulo) (hhi : VO E hi uhi) (hmx : VO E mx umx) :
    ∃ z, (Instr.sliceAt t u ulo uhi umx).run P w = .ok z w ∧ VR E r z := by
  unfold aSlice at h
  split at h
  · cases h
  · rename_i td htd
    split at h
    · rename_i s hk
      split at h
      · rename_i l hh hb
        injection h with h; subst h
        simp only [VR] at hx
        obtain ⟨rfl, hx⟩ := hx
        simp only [VO] at hmx; subst hmx
        have hu := hT.str htd hk
        have h1 := bnds_le hb (Nat.le_refl _)
        have h2 := bnds_ok (P := P) w hb hlo hhi (Nat.le_refl _) false h1.1
        have hsz : (mkS s).size = s.length := mkS_size s
        refine ⟨.string ((mkS s).extract l hh), ?_, by rw [mkS_extract], fun a ha => hx a (List.mem_of_mem_drop (List.mem_of_mem_take ha))⟩
        simp only [Instr.sliceAt, Sem.run_bind, run_underlying hu, Result.andThen_ok, Instr.slice, hsz]
        simp [h2]
      · cases h
    · rename_i e hk
      split at h
      · rename_i lh ed hb hed
        obtain ⟨l, hh⟩ := lh
        injection h with h; subst h
        simp only [VR] at hx; subst hx
        simp only [VO] at hmx; subst hmx
        have h1 := bnds_le hb (Nat.le_refl _)
        have h2 := bnds_ok (P := P) w hb hlo hhi (Nat.le_refl _) true h1.1
        have hl0 : l = 0 := by omega
        have hh0 : hh = 0 := by omega
        subst hl0; subst hh0
        exact ⟨_, run_slice3 (td := td) w (hT.slice htd hk) (hT.size hed w) h2, by simp [VR]⟩
      · cases h
    · rename_i e hk
      split at h
      · rename_i lh ed hb hed
        obtain ⟨l, hh⟩ := lh
        injection h with h; subst h
        obtain ⟨a, k, rfl⟩ := hx
        simp only [VO] at hmx; subst hmx
        have h1 := bnds_le hb (Nat.le_refl _)
        have h2 := bnds_ok (P := P) (k := k) w hb hlo hhi (Nat.zero_le _) true h1.1
        have hl0 : l = 0 := by omega
        have hh0 : hh = 0 := by omega
        subst hl0; subst hh0
        refine ⟨_, run_slice3 (td := td) w (hT.slice htd hk) (hT.size hed w) h2, a, k, ?_⟩
        have : a.add 0 = a := by simp [Addr.add]
        split <;> simp [this]
      · cases h
    · rename_i e z r' o n s hk
      split at h
      · rename_i l hh ed hb hed
        split at h
        · cases h
        · rename_i hs
          have hs := Nat.eq_of_beq_eq_true hs
          obtain ⟨en, k, he, hsub, rfl, hnk, hpos, hesz, hcap⟩ := hx
          simp only [VO] at hmx; subst hmx
          have h1 := bnds_le hb (Nat.le_refl _)
          have h2 := bnds_ok (P := P) (k := k) w hb hlo hhi hnk true h1.1
          have h3 := run_slice3 (P := P) (td := td) (a := some ⟨en.b, o - en.sub, none⟩) w (hT.slice htd hk) (hT.size hed w) h2
          simp only [capOk] at hcap
          split at h
          · injection h with h; subst h
            refine ⟨_, h3, en, k, he, hsub, ?_, by omega, hpos, hesz, hcap⟩
            have : (⟨en.b, o - en.sub, none⟩ : Addr).add 0 = ⟨en.b, o - en.sub, none⟩ := by simp [Addr.add]
            split <;> simp [this]
          · rename_i l
            split at h
            · rename_i hlt
              rw [blt_dec] at hlt
              have hlt : l + 1 < n := by simpa using hlt
              injection h with h; subst h
              refine ⟨_, h3, en, k - (l + 1), he, by omega, ?_, by omega, hpos, hesz, ?_⟩
              · rw [if_neg (by omega), Option.map_some, add_off hsub, hs]
              · simp only [capOk]
                rw [Nat.sub_mul, hesz]
                have : (l + 1) * s ≤ k * s := Nat.mul_le_mul_right _ (by omega)
                rw [hesz] at hcap
                omega
            · rename_i hlt
              rw [blt_dec] at hlt
              have hlt : ¬ l + 1 < n := by simpa using hlt
              injection h with h; subst h
              have : hh - (l + 1) = 0 := by omega
              refine ⟨_, h3, ?_⟩
              rw [this]
              simp only [VR]
              split
              · exact ⟨_, _, rfl⟩
              · exact ⟨_, _, rfl⟩
      · cases h
    · rename_i e z r' o n k0 s hk
      split at h
      · rename_i l hh ed hnk0 hb hed
        split at h
        · cases h
        · rename_i hs
          have hs := Nat.eq_of_beq_eq_true hs
          obtain ⟨en, k, he, hsub, rfl, hnk, hpos, hesz, hcap⟩ := hx
          simp only [VO] at hmx; subst hmx
          have hnk1 := Nat.le_of_ble_eq_true hnk0
          simp only [capOk] at hcap
          obtain ⟨rfl, hcap⟩ := hcap
          have h1 := bnds_le hb hnk1
          have h2 := bnds_ok (P := P) (k := k) w hb hlo hhi (Nat.le_refl _) true h1.1
          have h3 := run_slice3 (P := P) (td := td) (a := some ⟨en.b, o - en.sub, none⟩) w (hT.slice htd hk) (hT.size hed w) h2
          split at h
          · rename_i hlk
            have hlk := Nat.eq_of_beq_eq_true hlk
            subst hlk
            injection h with h; subst h
            refine ⟨_, h3, en, 0, he, hsub, ?_, Nat.le_refl _, hpos, hesz, rfl, by omega⟩
            have : hh - l = 0 := by omega
            rw [if_pos rfl, this, Nat.sub_self]
          · rename_i hlk
            have hlk : ¬ k = l := fun e => by subst e; simp at hlk
            injection h with h; subst h
            refine ⟨_, h3, en, k - l, he, by omega, ?_, by omega, hpos, hesz, rfl, ?_⟩
            · rw [if_neg hlk, Option.map_some, add_off hsub, hs]
            · rw [Nat.sub_mul, hesz]
              have : l * s ≤ k * s := Nat.mul_le_mul_right _ (by omega)
              rw [hesz] at hcap
              omega
      · cases h
    · rename_i e z r' o n c s m hk
      split at h
      · rename_i m ed hm hed
        split at h
        · rename_i hi' hs
          have hs := Nat.eq_of_beq_eq_true hs
          split at h
          · rename_i l hh hb
            obtain ⟨en, k, he, hsub, rfl, hnk, hpos, hesz, hcap⟩ := hx
            obtain ⟨um, rfl, hm'⟩ := hmx
            obtain ⟨uh, rfl, hh'⟩ := hhi
            have hmn := bnd_le hm
            have hr1 := bnd_ok (P := P) w hm hm' (k := k) (by omega) .slice3Acap
            have h1 := bnds_le hb (Nat.zero_le _)
            have h2 : (Instr.sliceBounds true n k ulo (some uh) (some um)).run P w = .ok (l, hh, m) w := by
              unfold bnds at hb
              simp only at hb
              split at hb
              · cases hb
              · rename_i h' hh2
                have hr2 := bnd_ok (P := P) w hh2 hh' (bnd_le hh2) .slice3B
                cases lo with
                | none =>
                  simp only [VO] at hlo; subst hlo
                  simp only [Option.some.injEq, Prod.mk.injEq] at hb
                  obtain ⟨rfl, rfl⟩ := hb
                  simp only [Instr.sliceBounds, if_true, Sem.run_bind, hr1, Result.andThen_ok, hr2, Sem.run_pure]
                | some a =>
                  obtain ⟨v, rfl, hv⟩ := hlo
                  simp only at hb
                  split at hb
                  · rename_i l' hl'
                    simp only [Option.some.injEq, Prod.mk.injEq] at hb
                    obtain ⟨rfl, rfl⟩ := hb
                    simp only [Instr.sliceBounds, if_true, Sem.run_bind, hr1, Result.andThen_ok, hr2, bnd_ok w hl' hv (bnd_le hl'), Sem.run_pure]
                  · cases hb
            have h3 := run_slice3 (P := P) (td := td) (a := some ⟨en.b, o - en.sub, none⟩) w (hT.slice htd hk) (hT.size hed w) h2
            have hcap' : k * en.esz + o ≤ en.top := by
              cases c with
              | none => simp only [capOk] at hcap; omega
              | some k0 => simp only [capOk] at hcap; obtain ⟨rfl, hcap⟩ := hcap; exact hcap
            have hmk : m * en.esz ≤ k * en.esz := Nat.mul_le_mul_right _ (by omega)
            split at h
            · rename_i hlk
              have hlk := Nat.eq_of_beq_eq_true hlk
              subst hlk
              injection h with h; subst h
              refine ⟨_, h3, en, 0, he, hsub, ?_, Nat.le_refl _, hpos, hesz, rfl, by omega⟩
              have : hh - l = 0 := by omega
              rw [if_pos rfl, this, Nat.sub_self]
            · rename_i hlk
              have hlk : ¬ m = l := fun e => by subst e; simp at hlk
              injection h with h; subst h
              refine ⟨_, h3, en, m - l, he, by omega, ?_, by omega, hpos, hesz, rfl, ?_⟩
              · rw [if_neg hlk, Option.map_some, add_off hsub, hs]
              · rw [Nat.sub_mul]
                have : l * en.esz ≤ m * en.esz := Nat.mul_le_mul_right _ (by omega)
                rw [← hesz]
                omega
          · cases h
        · cases h
      · cases h
    · cases h
end
end Go.Ev
