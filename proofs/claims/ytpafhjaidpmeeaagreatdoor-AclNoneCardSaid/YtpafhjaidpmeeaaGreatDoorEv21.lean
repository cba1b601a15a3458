/- Words of this claim: a region that draws its order: whatever the order, the same comes of it. -/
import Derived.Test.YtpafhjaidpmeeaaGreatDoorEv20
import Derived.OrdersIn
set_option linter.unusedVariables false
set_option linter.unusedSimpArgs false
namespace Go.Ev
open Go.RowKit

/-! ### Second: what is read is the same, wherever it stands -/
def posB (i m k : Nat) : Nat → List PE → List Nat → Bool
  | j, p :: r, mj :: ms => match p.k with
    | .eff k' => match Nat.testBit m j && !Nat.blt k' k, Nat.testBit mj i && !Nat.ble k k' with
      | false, false => posB i m k (j + 1) r ms
      | _, _ => false
    | _ => posB i m k (j + 1) r ms
  | _, _, _ => true
theorem posB_ok {i m k : Nat} : ∀ {PL : List PE} {ms : List Nat} {j : Nat}, (∀ (x : Nat) (p : PE) (mj kk : Nat), PL[x]? = some p → ms[x]? = some mj → p.k = .eff kk → (m.testBit (j + x) = true → kk < k) ∧ (mj.testBit i = true → k ≤ kk)) → posB i m k j PL ms = true
  | [], _, j, _ => rfl
  | p :: r, [], j, _ => rfl
  | p :: r, mj :: ms, j, h => by
    have ih : posB i m k (j + 1) r ms = true := posB_ok fun x p' mj' kk h1 h2 h3 => by
      have := h (x + 1) p' mj' kk (by simpa using h1) (by simpa using h2) h3
      have he : j + 1 + x = j + (x + 1) := by omega
      rw [he]; exact this
    simp only [posB]
    split
    · rename_i k' hk
      obtain ⟨h1, h2⟩ := h 0 p mj k' rfl rfl hk
      simp only [Nat.add_zero] at h1
      have e1 : (Nat.testBit m j && !Nat.blt k' k) = false := by
        cases hb : Nat.testBit m j with
        | false => rfl
        | true => have := h1 hb; simp [blt_dec, this]
      have e2 : (Nat.testBit mj i && !Nat.ble k k') = false := by
        cases hb : Nat.testBit mj i with
        | false => rfl
        | true => have := h2 hb; simp [Nat.ble_eq, this]
      rw [e1, e2]
      exact ih
    · exact ih
def rdB (g : Pg) (q0 : Nat) (PL : List PE) (ms : List Nat) (i m : Nat) (p : PE) (o : Op) : Nat → List H → Bool
  | _, [] => true
  | k, c :: r => match posB i m k 0 PL ms with
    | false => rdB g q0 PL ms i m p o (k + 1) r
    | true => match evRd g p.s (view q0 (Nat.testBit m) PL c) o with
      | some v => match avEq v p.v with
        | true => rdB g q0 PL ms i m p o (k + 1) r
        | false => false
      | none => false
theorem rdB_ok {g : Pg} {q0 : Nat} {PL : List PE} {ms : List Nat} {i m : Nat} {p : PE} {o : Op} : ∀ {CS : List H} {k0 : Nat}, rdB g q0 PL ms i m p o k0 CS = true → ∀ (j : Nat) (c : H), CS[j]? = some c → posB i m (k0 + j) 0 PL ms = true → evRd g p.s (view q0 (Nat.testBit m) PL c) o = some p.v
  | [], k0, h, j, c, hc, hp => by simp at hc
  | x :: r, k0, h, j, c, hc, hp => by
    have step : rdB g q0 PL ms i m p o (k0 + 1) r = true → ∀ j', j = j' + 1 → evRd g p.s (view q0 (Nat.testBit m) PL c) o = some p.v := fun h' j' hj => by
      subst hj
      exact rdB_ok h' j' c (by simpa using hc) (by have he : k0 + 1 + j' = k0 + (j' + 1) := by omega
                                                   rw [he]; exact hp)
    simp only [rdB] at h
    cases j with
    | zero =>
      simp at hc; subst hc
      simp only [Nat.add_zero] at hp
      rw [hp] at h
      simp only at h
      split at h
      · rename_i v hv
        split at h
        · rename_i he
          rw [hv, avEq_ok he]
        · cases h
      · cases h
    | succ j' =>
      split at h
      · exact step h j' rfl
      · split at h
        · split at h
          · exact step h j' rfl
          · cases h
        · cases h
def d2 (g : Pg) (q0 : Nat) (PL : List PE) (CS : List H) (ms : List Nat) : Nat → List Oper → List Nat → List PE → Bool
  | i, o :: r, m :: ms', p :: pl => match p.k with
    | .read => match rdB g q0 PL ms i m p o.op 0 CS with
      | true => d2 g q0 PL CS ms (i + 1) r ms' pl
      | false => false
    | _ => d2 g q0 PL CS ms (i + 1) r ms' pl
  | _, _, _, _ => true
theorem d2_ok {g : Pg} {q0 : Nat} {PL : List PE} {CS : List H} {ms : List Nat} : ∀ {r : List Oper} {ms' : List Nat} {pl : List PE} {i : Nat}, d2 g q0 PL CS ms i r ms' pl = true →
    ∀ (j : Nat) (o : Oper) (m : Nat) (p : PE), r[j]? = some o → ms'[j]? = some m → pl[j]? = some p → p.k = .read → rdB g q0 PL ms (i + j) m p o.op 0 CS = true
  | [], _, _, i, h, j, o, m, p, ho, hm, hp, hk => by simp at ho
  | _ :: _, [], _, i, h, j, o, m, p, ho, hm, hp, hk => by simp at hm
  | _ :: _, _ :: _, [], i, h, j, o, m, p, ho, hm, hp, hk => by simp at hp
  | x :: r, y :: ms', z :: pl, i, h, j, o, m, p, ho, hm, hp, hk => by
    have step : d2 g q0 PL CS ms (i + 1) r ms' pl = true → ∀ j', j = j' + 1 → rdB g q0 PL ms (i + j) m p o.op 0 CS = true := fun h' j' hj => by
      subst hj
      have := d2_ok h' j' o m p (by simpa using ho) (by simpa using hm) (by simpa using hp) hk
      have he : i + (j' + 1) = i + 1 + j' := by omega
      rw [he]; exact this
    simp only [d2] at h
    cases j with
    | zero =>
      simp at ho hm hp; subst ho; subst hm; subst hp
      rw [hk] at h
      simp only at h
      split at h
      · rename_i hr; exact hr
      · cases h
    | succ j' =>
      split at h
      · split at h
        · exact step h j' rfl
        · cases h
      · exact step h j' rfl
def drD : Dr := fun rec g n rd ops s ds h => match stat n ops with
  | none => none
  | some ms => match d1 rec g n ops h.nx ops ms 0 s ⟨h.t, h.nx + ops.length⟩ 0 none [] [] with
    | none => none
    | some (PL, CS, s', h') => match d2 g h.nx PL CS ms 0 ops ms PL with
      | true => some (.code .normal s' ds (view h.nx (fun _ => true) PL h'))
      | false => none

/-! ### Which have not come up -/
def left (listed : Array Bool) (n : Nat) : Nat := (List.range n).countP fun j => !listed.getD j false
theorem left_set {listed : Array Bool} {i : Nat} (hi : i < listed.size) (hl : listed.getD i false = false) : ∀ n, i < n → left (listed.setIfInBounds i true) n + 1 = left listed n
  | 0, h => by omega
  | n + 1, h => by
    unfold left
    rw [List.range_succ, List.countP_append, List.countP_append]
    rcases Nat.lt_or_ge i n with h1 | h1
    · have := left_set hi hl n h1
      unfold left at this
      simp only [List.countP_cons, List.countP_nil, getD_set_ne false (show i ≠ n by omega)]
      omega
    · obtain rfl : i = n := by omega
      have h2 : (List.range i).countP (fun j => !(listed.setIfInBounds i true).getD j false) = (List.range i).countP fun j => !listed.getD j false := by
        apply List.countP_congr
        intro j hj
        rw [getD_set_ne false (show i ≠ j by have := List.mem_range.1 hj; omega)]
      rw [h2]
      have h3 : (listed.setIfInBounds i true).getD i false = true := by simp [hi]
      simp only [List.countP_cons, List.countP_nil, h3, hl]
      simp
theorem left_zero {listed : Array Bool} {n : Nat} (h : left listed n = 0) : ∀ j, j < n → listed.getD j false = true := by
  intro j hj
  unfold left at h
  rw [List.countP_eq_zero] at h
  have := h j (List.mem_range.2 hj)
  simpa using this
theorem left_pos {listed : Array Bool} {n : Nat} (h : left listed n ≠ 0) : ∃ j, j < n ∧ listed.getD j false = false := by
  unfold left at h
  have := List.countP_pos_iff.1 (Nat.pos_of_ne_zero h)
  obtain ⟨j, hj, hb⟩ := this
  exact ⟨j, List.mem_range.1 hj, by simpa using hb⟩

section
variable {P : Program} {g : Pg} (hg : POK P g) {rec : Rec} (hrec : RecOK P g rec) {n : Nat} {ops : List Oper} {q0 : Nat} {s0 s' : Sl} {ms : List Nat} {PL : List PE} {CS : List H} {h' : H}

/-- What holds when some have come up. -/
structure DInv (n : Nat) (ops : List Oper) (s0 : Sl) (PL : List PE) (ds : List AD) (E0 : Env) (h0 : H) (w0 : World) (listed : Array Bool) (k : Nat) (c : H) (E : Env) (a : Act) (w : World) : Prop where
  size : listed.size = ops.length
  cl : ∀ (i : Nat) (o : Oper), ops[i]? = some o → listed.getD i false = true → ∀ e ∈ o.after, Region.binds .any e = true → listed.getD e.on false = true
  stp : Stp E0 h0 w0 E (view h0.nx (fun j => listed.getD j false) PL c) w
  nx : h0.nx + ops.length ≤ c.nx
  un : ∀ j, j < ops.length → listed.getD j false = false → c.t.get (h0.nx + j) = none ∧ ∀ r, E (h0.nx + j) r = none
  eff : ∀ (j : Nat) (p : PE) (kk : Nat), PL[j]? = some p → p.k = .eff kk → (listed.getD j false = true ↔ kk < k)
  slots : ∃ σ, SR E σ n a.tmps ∧ (∀ (j : Nat) (p : PE) (t : Nat), listed.getD j false = true → PL[j]? = some p → dstOf ops j = some t → look σ t = p.v) ∧ ∀ t, (∀ j, listed.getD j false = true → dstOf ops j ≠ some t) → look σ t = look s0 t
  drs : DRs E ds a.defers

theorem getD_set_eq {listed : Array Bool} {i : Nat} (hi : i < listed.size) (d : Bool) : (listed.setIfInBounds i true).getD i d = true := by simp [hi]
/-- One more has come up. -/
theorem DInv.adv {ds : List AD} {E0 E E1 : Env} {h0 c c1 : H} {w0 w w1 : World} {listed : Array Bool} {k k1 i : Nat} {a : Act} {o : Oper} {p : PE} {u : Value} (v : DInv n ops s0 PL ds E0 h0 w0 listed k c E a w) (hlen : PL.length = ops.length)
    (hdist : ∀ j j' t, dstOf ops j = some t → dstOf ops j' = some t → j = j') (ho : ops[i]? = some o) (hp : PL[i]? = some p) (hi : listed.getD i false = false) (haft : ∀ e ∈ o.after, Region.binds .any e = true → listed.getD e.on false = true)
    (hdn : ∀ d, o.dst = some d → d < n) (hle : E.le E1) (hst : Stp E0 h0 w0 E1 (view h0.nx (fun j => (listed.setIfInBounds i true).getD j false) PL c1) w1) (hnx : c.nx ≤ c1.nx)
    (hun : ∀ j, j < ops.length → j ≠ i → listed.getD j false = false → c1.t.get (h0.nx + j) = none ∧ ∀ r, E1 (h0.nx + j) r = none)
    (heff : ∀ (j : Nat) (q : PE) (kk : Nat), PL[j]? = some q → q.k = .eff kk → ((j = i ∨ kk < k) ↔ kk < k1)) (hv : VR E1 p.v u) : DInv n ops s0 PL ds E0 h0 w0 (listed.setIfInBounds i true) k1 c1 E1 (a.put o.dst u) w1 := by
  have hil : i < listed.size := by rw [v.size]; exact (List.getElem?_eq_some_iff.1 ho).1
  have hset : ∀ j, (listed.setIfInBounds i true).getD j false = true ↔ (j = i ∨ listed.getD j false = true) := fun j => by
    by_cases hj : j = i
    · subst hj; rw [getD_set_eq hil]; simp
    · rw [getD_set_ne false (Ne.symm hj)]; simp [hj]
  have hsetf : ∀ j, (listed.setIfInBounds i true).getD j false = false → j ≠ i ∧ listed.getD j false = false := fun j hj => by
    refine ⟨fun e => ?_, ?_⟩
    · have := (hset j).2 (.inl e); rw [hj] at this; cases this
    · cases hx : listed.getD j false with
      | false => rfl
      | true => have := (hset j).2 (.inr hx); rw [hj] at this; cases this
  have hd : dstOf ops i = o.dst := by simp only [dstOf, ho]
  refine ⟨by simpa using v.size, fun j o' ho' hj e he hb => (hset _).2 (.inr ?_), hst, Nat.le_trans v.nx hnx, fun j hj hjl => hun j hj (hsetf j hjl).1 (hsetf j hjl).2, fun j q kk hq hqk => ?_, ?_, by rw [put_defers]; exact v.drs.mono hle⟩
  · rcases (hset j).1 hj with rfl | hj
    · rw [ho] at ho'; injection ho' with ho'; subst ho'
      exact haft e he hb
    · exact v.cl j o' ho' hj e he hb
  · rw [hset, v.eff j q kk hq hqk]
    exact heff j q kk hq hqk
  · obtain ⟨σ, h1, h2, h3⟩ := v.slots
    have h1 := h1.mono hle
    cases hod : o.dst with
    | none =>
      rw [hod] at hd
      refine ⟨σ, h1, fun j q t hj hq ht => ?_, fun t ht => h3 t fun j hj => ht j ((hset j).2 (.inr hj))⟩
      rcases (hset j).1 hj with rfl | hj
      · rw [hd] at ht; cases ht
      · exact h2 j q t hj hq ht
    | some d =>
      rw [hod] at hd
      have hlk : ∀ t, look (σ.put d p.v) t = if t = d then p.v else look σ t := fun t => by
        unfold look
        rw [Tr.get_put]
        by_cases h : t = d
        · rw [if_pos h, if_pos h]
        · rw [if_neg h, if_neg h]
      refine ⟨σ.put d p.v, h1.put (hdn d hod) hv, fun j q t hj hq ht => ?_, fun t ht => ?_⟩
      · rw [hlk]
        rcases (hset j).1 hj with rfl | hj2
        · rw [hd] at ht; injection ht with ht; subst ht
          rw [hp] at hq; injection hq with hq; subst hq
          rw [if_pos rfl]
        · rw [if_neg]
          · exact h2 j q t hj2 hq ht
          · rintro rfl
            have := hdist _ _ _ ht hd
            subst this
            rw [hi] at hj2; cases hj2
      · rw [hlk, if_neg (fun e => ht i ((hset i).2 (.inl rfl)) (by rw [hd, e]))]
        exact h3 t fun j hj => ht j ((hset j).2 (.inr hj))

theorem view_congr {q0 : Nat} {f f' : Nat → Bool} {c : H} (hf : ∀ j ob s v, PL[j]? = some ⟨.new ob, s, v⟩ → f j = f' j) : ∀ z, (view q0 f PL c).t.get z = (view q0 f' PL c).t.get z := fun z => by
  rw [view_get, view_get]
  cases c.t.get z with
  | some o => rfl
  | none =>
    simp only
    cases hq : PL[z - q0]? with
    | none => simp
    | some p =>
      obtain ⟨kk, sl, v⟩ := p
      cases kk with
      | new ob => simp only [hf _ _ _ _ hq]
      | _ => simp
theorem view_sub {q0 : Nat} {f f' : Nat → Bool} {c : H} {pre : List PE} (hp : ∀ (j : Nat) (x : PE), pre[j]? = some x → PL[j]? = some x) (hf : ∀ j, f j = true → f' j = true) : ∀ z o, (view q0 f pre c).t.get z = some o → (view q0 f' PL c).t.get z = some o := fun z o hz => by
  rw [view_get] at hz ⊢
  cases hc : c.t.get z with
  | some o' => rw [hc] at hz; exact hz
  | none =>
    rw [hc] at hz
    simp only at hz ⊢
    split at hz
    · rename_i hcond
      rw [if_pos ⟨hcond.1, hf _ hcond.2⟩]
      cases hq : pre[z - q0]? with
      | none => rw [hq] at hz; cases hz
      | some p =>
        rw [hq] at hz
        rw [hp _ _ hq]
        exact hz
    · cases hz
include hg hrec in
theorem any_ok {rd rb : Option Nat} {E0 : Env} {h0 : H} {w0 : World} {ds : List AD} {T : Tr Nat} (ge : GE g.G E0) (hT : dstT n 0 ops .e = some T) (hms : ms = masks [] ops) (hst : statB ops T ms 0 ops ms = true)
    (d : DR1 rec g ops h0.nx s0 ops ms 0 ⟨h0.t, h0.nx + ops.length⟩ 0 [] [] PL CS s' h') (h2 : d2 g h0.nx PL CS ms 0 ops ms PL = true) : ∀ (f : Nat) (listed : Array Bool) (k : Nat) (c : H) (E : Env) (a : Act) (w : World), CS[k]? = some c → left listed ops.length = f → DInv n ops s0 PL ds E0 h0 w0 listed k c E a w →
    wpAnyIn (Fw rb) 0 P .any ops.toArray (CPost n E0 h0 w0 .normal s' ds (view h0.nx (fun _ => true) PL h')) f listed a w := by
  obtain ⟨hT1, hT2⟩ := dstT_ok ops 0 .e T hT
  have hTd : ∀ j t, dstOf ops j = some t → T.get t = some j ∧ t < n := fun j t h => by
    unfold dstOf at h
    split at h
    · rename_i o ho
      obtain ⟨h3, h4⟩ := hT2 j o t ho h
      exact ⟨by rw [h3]; simp, h4⟩
    · cases h
  have hdist : ∀ j j' t, dstOf ops j = some t → dstOf ops j' = some t → j = j' := fun j j' t h h' => by
    have h3 := (hTd j t h).1
    have h4 := (hTd j' t h').1
    rw [h3] at h4; injection h4
  obtain ⟨hml, hso⟩ := statB_ok hst
  have hPL : PL.length = ops.length := by rw [d.len]; simp
  have fin : ∀ (listed : Array Bool) (k : Nat) (c : H) (E : Env) (a : Act) (w : World), CS[k]? = some c → left listed ops.length = 0 → DInv n ops s0 PL ds E0 h0 w0 listed k c E a w → CPost n E0 h0 w0 .normal s' ds (view h0.nx (fun _ => true) PL h') .normal a w := fun listed k c E a w hc hl v => by
    have hall := left_zero hl
    obtain ⟨K, lst, hK1, hK2, hK3⟩ := d.fin
    have hk : k = K := by
      have h3 := (List.getElem?_eq_some_iff.1 hc).1
      cases lst with
      | none => simp only [LastE] at hK3; omega
      | some j =>
        obtain ⟨kl, p, h4, h5, h6⟩ := hK3
        have h7 := (v.eff j p kl h5 h6).1 (hall j (by rw [← hPL]; exact (List.getElem?_eq_some_iff.1 h5).1))
        omega
    subst hk
    rw [hc] at hK2; injection hK2 with hK2; subst hK2
    refine ⟨E, v.stp.congr (view_congr fun j ob s u hj => hall j (by rw [← hPL]; exact (List.getElem?_eq_some_iff.1 hj).1)) rfl, rfl, .inl ?_, v.drs⟩
    obtain ⟨σ, h3, h4, h5⟩ := v.slots
    refine ⟨h3.1, fun t => ?_⟩
    have : look s' t = look σ t := by
      have hsf := d.sf
      simp only [Nat.zero_add] at hsf
      by_cases hex : ∃ j, dstOf ops j = some t
      · obtain ⟨j, hj⟩ := hex
        have hjl : j < ops.length := by
          unfold dstOf at hj
          split at hj
          · rename_i o ho; exact (List.getElem?_eq_some_iff.1 ho).1
          · cases hj
        obtain ⟨p, h6, h7⟩ := hsf.2 j t hjl hj
        rw [h7, h4 j p t (hall j hjl) h6 hj]
      · rw [hsf.1 t fun j _ hj => hex ⟨j, hj⟩, h5 t fun j _ hj => hex ⟨j, hj⟩]
    rw [this]
    exact h3.2 t
  have ready : ∀ (listed : Array Bool), listed.size = ops.length → Region.ready .any ops.toArray listed = [] → left listed ops.length = 0 := fun listed hsz hr => by
    apply Classical.byContradiction
    intro hne
    obtain ⟨j, hj, hjl⟩ := left_pos hne
    have key : ∀ j, j < ops.length → listed.getD j false = true := by
      intro j
      induction j using Nat.strongRecOn with
      | _ j ih =>
        intro hj
        cases hx : listed.getD j false with
        | true => rfl
        | false =>
          exfalso
          have hmj : j < ms.length := by rw [hml]; exact hj
          obtain ⟨hs1, _⟩ := hso j ops[j] ms[j] (by simp [hj]) (by simp [hmj])
          have : j ∈ Region.ready .any ops.toArray listed := by
            rw [mem_ready]
            refine ⟨?_, ops[j], by simp [hj], fun e he hb => ih e.on ?_ ?_⟩
            · have hjs : j < listed.size := by omega
              simp [Array.getD, hjs] at hx ⊢; exact hx
            · have := aftB_ok hs1 e (by simpa using he) hb
              omega
            · have := aftB_ok hs1 e (by simpa using he) hb
              omega
          rw [hr] at this; simp at this
    rw [key j hj] at hjl; cases hjl
  intro f
  induction f with
  | zero =>
    intro listed k c E a w hc hl v
    refine ⟨?_, fin listed k c E a w hc hl v⟩
    have hall := left_zero hl
    rw [List.eq_nil_iff_forall_not_mem]
    intro j hj
    rw [mem_ready] at hj
    obtain ⟨h3, o, h4, _⟩ := hj
    have hjl : j < ops.length := by
      have := (Array.getElem?_eq_some_iff.1 h4).1
      simpa using this
    have := hall j hjl
    have hjs : j < listed.size := by rw [v.size]; exact hjl
    simp [Array.getD, hjs] at h3 this
    rw [this] at h3; cases h3
  | succ f ih =>
    intro listed k c E a w hc hl v
    refine ⟨fun hr => fin listed k c E a w hc (ready listed v.size hr) v, fun i hi => ?_⟩
    rw [mem_ready] at hi
    obtain ⟨hi0, o, hoA, haft⟩ := hi
    have ho : ops[i]? = some o := by simpa using hoA
    have hil : i < ops.length := (List.getElem?_eq_some_iff.1 ho).1
    have his : i < listed.size := by rw [v.size]; exact hil
    have hi : listed.getD i false = false := by simp [Array.getD, his] at hi0 ⊢; exact hi0
    have hmi : i < ms.length := by rw [hml]; exact hil
    obtain ⟨m, hm⟩ : ∃ m, ms[i]? = some m := ⟨ms[i], by simp [hmi]⟩
    obtain ⟨p, hp, hsf, hop⟩ := d.op i o m ho hm
    simp only [Nat.zero_add] at hp hsf hop
    obtain ⟨_, hlook⟩ := hso i o m ho hm
    simp only [Nat.zero_add] at hlook
    have ahead := ahead_of (L := fun j => listed.getD j false) v.cl
    have hmL : ∀ j, m.testBit j = true → listed.getD j false = true := ahead i o m ho (by rw [← hms]; exact hm) haft
    have behind : ∀ j mj, ms[j]? = some mj → mj.testBit i = true → listed.getD j false = false := fun j mj hmj hb => by
      cases hx : listed.getD j false with
      | false => rfl
      | true =>
        have hjl : j < ops.length := by rw [← hml]; exact (List.getElem?_eq_some_iff.1 hmj).1
        have := ahead j ops[j] mj (by simp [hjl]) (by rw [← hms]; exact hmj) (v.cl j ops[j] (by simp [hjl]) hx) i hb
        rw [hi] at this; cases this
    obtain ⟨σ, hσ1, hσ2, hσ3⟩ := v.slots
    have agree : ∀ t, slotB T ms i m t = true → look σ t = look p.s t := fun t ht => by
      by_cases hex : ∃ j, dstOf ops j = some t
      · obtain ⟨j, hj⟩ := hex
        have hjl : j < ops.length := by
          unfold dstOf at hj
          split at hj
          · rename_i o ho; exact (List.getElem?_eq_some_iff.1 ho).1
          · cases hj
        unfold slotB at ht
        rw [(hTd j t hj).1] at ht
        simp only at ht
        have un : listed.getD j false = false → i ≤ j → look σ t = look p.s t := fun hjL hij => by
          have e1 := hσ3 t fun j' hj' hd' => by
            have := hdist _ _ _ hd' hj
            rw [this, hjL] at hj'
            exact absurd hj' (by simp)
          have e2 := hsf.1 t fun j' hj' hd' => by
            have := hdist _ _ _ hd' hj
            omega
          rw [e1, e2]
        split at ht
        · rename_i hb
          have := Nat.eq_of_beq_eq_true hb
          subst this
          exact un hi (Nat.le_refl _)
        · rename_i hb
          split at ht
          · rename_i hlt
            rw [blt_dec] at hlt
            have hlt : j < i := by simpa using hlt
            obtain ⟨q, h6, h7⟩ := hsf.2 j t hlt hj
            rw [h7, hσ2 j q t (hmL j ht) h6 hj]
          · rename_i hlt
            rw [blt_dec] at hlt
            have hlt : ¬ j < i := by simpa using hlt
            split at ht
            · rename_i mj hmj
              exact un (behind j mj hmj ht) (by omega)
            · cases ht
      · rw [hσ3 t fun j _ hj => hex ⟨j, hj⟩, hsf.1 t fun j _ hj => hex ⟨j, hj⟩]
    have hopd := looks_opd hlook agree g.G
    have hwant := looks_want hlook agree
    have hdn : ∀ t, o.dst = some t → t < n := fun t ht => (hTd i t (by simp only [dstOf, ho]; exact ht)).2
    have hleft : left (listed.setIfInBounds i true) ops.length = f := by
      have := left_set his hi ops.length hil
      omega
    have hA : AR g.G E σ n a := ⟨hσ1, ge.mono v.stp.le⟩
    have hW := want_ok (ops := ops.toArray) hσ1 o
    simp only [List.toList_toArray] at hW
    rw [hwant] at hW
    -- an operation that turns no kept number
    have same : ∀ {ob}, p.k ≠ .new ob → True := fun _ => trivial
    have hview : (∀ ob, p.k ≠ .new ob) → ∀ (c : H) z, (view h0.nx (fun j => (listed.setIfInBounds i true).getD j false) PL c).t.get z = (view h0.nx (fun j => listed.getD j false) PL c).t.get z := fun hne c => view_congr fun j ob s u hj => by
      by_cases hji : j = i
      · subst hji
        rw [hp] at hj; injection hj with hj
        exact absurd (by rw [hj]) (hne ob)
      · simp only [getD_set_ne false (Ne.symm hji)]
    have noeff : (∀ kk, p.k ≠ .eff kk) → ∀ (j : Nat) (q : PE) (kk : Nat), PL[j]? = some q → q.k = .eff kk → ((j = i ∨ kk < k) ↔ kk < k) := fun hne j q kk hq hqk => by
      constructor
      · rintro (rfl | h)
        · rw [hp] at hq; injection hq with hq; subst hq; exact absurd hqk (hne kk)
        · exact h
      · exact .inr
    -- an operation on a part of the memory
    have sub : ∀ (hs : H) (h1 c1 : H) (k1 : Nat), (∀ ob, p.k ≠ .new ob) → wantA ops p.s o = true → evOp rec g p.s hs o.op = some (.val p.v h1) → CS[k1]? = some c1 →
        (∀ z x, hs.t.get z = some x → (view h0.nx (fun j => listed.getD j false) PL c).t.get z = some x) → hs.nx = c.nx → c1.nx = h1.nx →
        ((∀ z x, hs.t.get z = some x → ∃ x', h1.t.get z = some x') → ∀ z, (view h0.nx (fun j => listed.getD j false) PL c1).t.get z = match h1.t.get z with
          | some x => some x
          | none => (view h0.nx (fun j => listed.getD j false) PL c).t.get z) →
        (∀ j, j < ops.length → listed.getD j false = false → h1.t.get (h0.nx + j) = none → c1.t.get (h0.nx + j) = none) →
        (∀ (j : Nat) (q : PE) (kk : Nat), PL[j]? = some q → q.k = .eff kk → ((j = i ∨ kk < k) ↔ kk < k1)) →
        wpOpIn (Fw rb) 0 P ops.toArray (CPost n E0 h0 w0 .normal s' ds (view h0.nx (fun _ => true) PL h')) i (wpAnyIn (Fw rb) 0 P .any ops.toArray (CPost n E0 h0 w0 .normal s' ds (view h0.nx (fun _ => true) PL h')) f (listed.setIfInBounds i true)) a w := by
      intro hs h1 c1 k1 hnn hw hev hc1 hsub hsn hcn hgl hno heff
      rw [hw] at hW
      simp only [wpOpIn, hoA]
      rw [if_pos hW]
      have hsat := v.stp.sat.sub hsub hsn.symm
      rw [← evOp_congr (g := g) hopd] at hev
      refine evOp_ok hg hrec hsat hA hev (fun ⟨d, hd⟩ => by cases hd) fun E1 w1 u hst1 hv1 => ?_
      have hfr : Stp E (view h0.nx (fun j => listed.getD j false) PL c) w E1 (view h0.nx (fun j => (listed.setIfInBounds i true).getD j false) PL c1) w1 :=
        Stp.frame v.stp.sat hsub hsn.symm hst1 (fun z => by rw [hview hnn]; exact hgl hst1.keep z) hcn
      have hgone : ∀ j, j < ops.length → listed.getD j false = false → h1.t.get (h0.nx + j) = none := fun j hj hjl => by
        cases hx : h1.t.get (h0.nx + j) with
        | none => rfl
        | some x =>
          exfalso
          obtain ⟨x', hx'⟩ := hst1.dom _ _ hx (by rw [hsn]; have := v.nx; omega)
          have := hsub _ _ hx'
          rw [view_get, (v.un j hj hjl).1] at this
          simp only [Nat.add_sub_cancel_left, hjl] at this
          simp at this
      have hadv := v.adv (k1 := k1) (c1 := c1) hPL hdist ho hp hi haft hdn hst1.le (v.stp.trans hfr) (by rw [hcn, ← hsn]; exact hst1.nx) (fun j hj hji hjl => by
        refine ⟨hno j hj hjl (hgone j hj hjl), fun r => ?_⟩
        cases hx : E1 (h0.nx + j) r with
        | none => rfl
        | some e =>
          exfalso
          rcases hst1.ent _ _ _ hx with h3 | ⟨x, h3⟩
          · rw [(v.un j hj hjl).2] at h3; cases h3
          · rw [hgone j hj hjl] at h3; cases h3) heff hv1
      exact ih _ k1 c1 E1 _ w1 hc1 hleft hadv
    cases hpk : p.k with
    | off =>
      simp only [Op1, hpk] at hop
      obtain ⟨hw, hv⟩ := hop
      rw [hw] at hW
      simp only [wpOpIn, hoA]
      rw [if_neg (by simp [hW])]
      refine ⟨fun _ _ => trivial, ?_⟩
      have hadv := v.adv (k1 := k) (c1 := c) (u := Go.undef) hPL hdist ho hp hi haft hdn (Env.le_refl _) (v.stp.congr (fun z => (hview (by rw [hpk]; simp) c z).symm) rfl) (Nat.le_refl _) (fun j hj _ hjl => v.un j hj hjl) (noeff (by rw [hpk]; simp)) (by rw [hv]; exact VR.undef)
      exact ih _ k c E _ w hc hleft hadv
    | pure =>
      simp only [Op1, hpk] at hop
      obtain ⟨hw, hv⟩ := hop
      refine sub (view h0.nx (fun j => listed.getD j false) PL c) (view h0.nx (fun j => listed.getD j false) PL c) c k (by rw [hpk]; simp) hw (by unfold evOp evO; rw [hv]) hc (fun _ _ h => h) rfl rfl (fun _ z => by
        cases (view h0.nx (fun j => listed.getD j false) PL c).t.get z <;> rfl) (fun j hj hjl _ => (v.un j hj hjl).1) (noeff (by rw [hpk]; simp))
    | read =>
      simp only [Op1, hpk] at hop
      obtain ⟨hw, hv⟩ := hop
      have hrd := d2_ok h2 i o m p ho hm hp hpk
      simp only [Nat.zero_add] at hrd
      have hr := rdB_ok hrd k c hc (by
        simp only [Nat.zero_add]
        refine posB_ok fun x q mj kk hq hmj hqk => ⟨fun hb => ?_, fun hb => ?_⟩
        · simp only [Nat.zero_add] at hb
          exact (v.eff x q kk hq hqk).1 (hmL x hb)
        · have h3 := behind x mj hmj hb
          apply Classical.byContradiction
          intro hlt
          rw [(v.eff x q kk hq hqk).2 (by omega)] at h3
          cases h3)
      have hE := evRd_evO hv hr
      refine sub (view h0.nx (Nat.testBit m) PL c) (view h0.nx (Nat.testBit m) PL c) c k (by rw [hpk]; simp) hw (by unfold evOp; rw [hE]) hc (view_sub (fun _ _ h => h) hmL) rfl rfl (fun _ z => ?_) (fun j hj hjl _ => (v.un j hj hjl).1) (noeff (by rw [hpk]; simp))
      cases hx : (view h0.nx (Nat.testBit m) PL c).t.get z with
      | none => rfl
      | some x => exact view_sub (fun _ _ h => h) hmL z x hx
    | new ob =>
      simp only [Op1, hpk] at hop
      obtain ⟨hw, hv⟩ := hop
      rw [hw] at hW
      simp only [wpOpIn, hoA]
      rw [if_pos hW]
      rw [← evNw_congr (g := g) hopd] at hv
      obtain ⟨hnd, S, hS, z, w1, e, ob', g1, g2, g3, g4, g5, g6, g7, g8⟩ := evNw_ok hg (w := w) hA hv
      refine ⟨fun _ _ => trivial, ?_⟩
      rw [Oper.semAt_eq _ _ _ hnd, hS]
      simp only [Sem.run_bind, g1, Result.andThen_ok, Sem.run_pure]
      obtain ⟨hun1, hun2⟩ := v.un i hil hi
      have hnone : (view h0.nx (fun j => listed.getD j false) PL c).t.get (h0.nx + i) = none := by
        rw [view_get, hun1]
        simp only [Nat.add_sub_cancel_left, hi]
        simp
      obtain ⟨g9, g10⟩ := g8 (E.upd (h0.nx + i) 0 e) (Env.upd_le (hun2 0)) (Env.upd_eq _ _ _ _)
      have hpe : PL[i]? = some ⟨.new ob, p.s, p.v⟩ := by rw [hp, ← hpk]
      have hst1 : Stp E0 h0 w0 (E.upd (h0.nx + i) 0 e) (view h0.nx (fun j => (listed.setIfInBounds i true).getD j false) PL c) w1 := by
        refine Stp.newAt v.stp (Nat.le_add_right _ _) (by have := v.nx; show h0.nx + i < c.nx; omega) hun2 hnone g7 g6 g2 g3 g4 g5 g9 rfl fun y => ?_
        by_cases hy : y = h0.nx + i
        · subst hy
          rw [if_pos rfl, view_get, hun1]
          simp only [Nat.add_sub_cancel_left, getD_set_eq his, hpe]
          simp
        · rw [if_neg hy, view_get, view_get]
          cases c.t.get y with
          | some x => rfl
          | none =>
            simp only
            by_cases hle : h0.nx ≤ y
            · rw [getD_set_ne false (show i ≠ y - h0.nx by omega)]
            · rw [if_neg (fun h => hle h.1), if_neg (fun h => hle h.1)]
      have hadv := v.adv (k1 := k) (c1 := c) (u := z) hPL hdist ho hp hi haft hdn (Env.upd_le (hun2 0)) hst1 (Nat.le_refl _) (fun j hj hji hjl => ⟨(v.un j hj hjl).1, fun r => by
        rw [Env.upd_ne (fun h => hji (by omega))]; exact (v.un j hj hjl).2 r⟩) (noeff (by rw [hpk]; simp)) g10
      exact ih _ k c _ _ w1 hc hleft hadv
    | eff kk =>
      simp only [Op1, hpk] at hop
      obtain ⟨hw, hprev, pre, c0, c1, hc0, hc1, hpre, hev⟩ := hop
      have hkk : kk = k := by
        have h3 : ¬ kk < k := fun h => by
          have := (v.eff i p kk hp hpk).2 h
          rw [hi] at this; cases this
        rcases hprev with rfl | ⟨j', p', h4, h5, h6⟩
        · omega
        · have := (v.eff j' p' _ h5 h6).1 (hmL j' h4)
          omega
      subst hkk
      rw [hc] at hc0; injection hc0 with hc0; subst hc0
      refine sub (view h0.nx (Nat.testBit m) pre c) c1 c1 (kk + 1) (by rw [hpk]; simp) hw hev hc1 (view_sub hpre hmL) rfl rfl (fun hkeep z => ?_) (fun j hj hjl hx => hx) (fun j q k2 hq hqk => ?_)
      · rw [view_get]
        cases hx : c1.t.get z with
        | some x => rfl
        | none =>
          simp only
          rw [view_get]
          cases hy : c.t.get z with
          | some x =>
            exfalso
            obtain ⟨x', hx'⟩ := hkeep z x (by rw [view_get, hy])
            rw [hx] at hx'; cases hx'
          | none => rfl
      · constructor
        · rintro (rfl | h)
          · rw [hp] at hq; injection hq with hq; subst hq
            rw [hpk] at hqk; injection hqk with hqk; omega
          · omega
        · intro h
          by_cases h3 : k2 = kk
          · subst h3
            exact .inl (d.one j i q p k2 (Nat.zero_le _) (Nat.zero_le _) hq hp hqk hpk)
          · exact .inr (by omega)
end
section
variable {P : Program} {g : Pg} (hg : POK P g)
include hg in
theorem drD_ok : DrOK P g drD := fun rec hrec n rd id ops s ds h o k => by
  unfold drD at k
  split at k
  · cases k
  · rename_i ms hms
    split at k
    · cases k
    · rename_i PL CS s' h' hd
      split at k
      · rename_i h2
        injection k with k; subst k
        intro E w a rb st ge hS hD hR
        show (Code.region id ops.toArray true).wpIn _ _ _ _ _ _
        unfold stat at hms
        split at hms
        · rename_i T hT
          split at hms
          · rename_i hst
            injection hms with hms
            obtain ⟨hT1, hT2⟩ := dstT_ok ops 0 .e T hT
            have hTd : ∀ j t, dstOf ops j = some t → T.get t = some j := fun j t h => by
              unfold dstOf at h
              split at h
              · rename_i o ho
                rw [(hT2 j o t ho h).1]; simp
              · cases h
            have hdist : ∀ j j' t, dstOf ops j = some t → dstOf ops j' = some t → j = j' := fun j j' t h h' => by
              have h3 := hTd j t h
              have h4 := hTd j' t h'
              rw [h3] at h4; injection h4
            have d := d1_ok (s0 := s) hdist ops ms 0 s ⟨h.t, h.nx + ops.length⟩ 0 none [] [] (by simp) hd rfl rfl rfl ⟨fun _ _ => rfl, fun j t hj => by omega⟩
            refine wpIn_region_any hg.mixed ?_
            have hinit : DInv n ops s PL ds E h w (Array.replicate ops.toArray.size false) 0 ⟨h.t, h.nx + ops.length⟩ E a { w with drawn := w.drawn + 1 } := by
              have hf : ∀ j, (Array.replicate ops.toArray.size false).getD j false = false := fun j => by simp [Array.getD]
              have hgt : ∀ z, (view h.nx (fun j => (Array.replicate ops.toArray.size false).getD j false) PL ⟨h.t, h.nx + ops.length⟩).t.get z = h.t.get z := fun z => by
                rw [view_get]
                cases hx : h.t.get z with
                | some x => rfl
                | none => simp only [hf]; simp
              have hdr := Stp.drew (w' := { w with drawn := w.drawn + 1 }) st rfl rfl rfl rfl
              refine ⟨by simp, fun i o _ hi => (by rw [hf] at hi; exact absurd hi (by simp)), ⟨hdr.le, ⟨fun z o hz => hdr.sat.obj z o (by rw [← hgt]; exact hz), fun z z' o o' e e' hz hz' => hdr.sat.inj z z' o o' e e' (by rw [← hgt]; exact hz) (by rw [← hgt]; exact hz'), fun z r e he => ?_⟩, rfl, rfl, rfl, Nat.le_refl _, fun _ _ _ => rfl, fun k hk ⟨z, o, e, q1, q2, q3⟩ => ⟨z, o, e, by rw [← hgt]; exact q1, q2, q3⟩, fun z o hz => ⟨o, by rw [hgt]; exact hz⟩, fun z o hz _ => ⟨o, by rw [← hgt]; exact hz⟩, fun z r e he => .inl he, Nat.le_add_right _ _⟩, Nat.le_refl _, fun j hj _ => ⟨?_, fun r => ?_⟩, fun j p kk hp hk => ?_, ⟨s, hS, fun j p t hj => (by rw [hf] at hj; exact absurd hj (by simp)), fun _ _ => rfl⟩, hD⟩
              · have := st.fresh z r e he
                exact ⟨Nat.lt_of_lt_of_le this.1 (Nat.le_add_right _ _), fun o ho => this.2 o (by rw [← hgt]; exact ho)⟩
              · cases hx : h.t.get (h.nx + j) with
                | none => rfl
                | some x => have := st.lt hx; omega
              · cases hx : E (h.nx + j) r with
                | none => rfl
                | some e => have := (st.fresh _ _ _ hx).1; omega
              · rw [hf]; simp
            have hl : left (Array.replicate ops.toArray.size false) ops.length = ops.toArray.size := by
              unfold left
              have : (List.range ops.length).countP (fun j => !(Array.replicate ops.toArray.size false).getD j false) = (List.range ops.length).length := by
                rw [List.countP_eq_length]
                intro j _
                simp [Array.getD]
              rw [this]; simp
            exact any_ok hg hrec (rd := rd) ge hT hms.symm (by rw [← hms]; exact hst) d h2 _ _ 0 _ E a _ d.cur hl hinit
          · cases hms
        · cases hms
      · cases k
end
end Go.Ev
