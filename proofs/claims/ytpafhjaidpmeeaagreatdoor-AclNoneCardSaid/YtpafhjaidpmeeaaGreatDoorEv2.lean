/- Words of this claim: the evaluator's memory; what it is for the machine's memory to be as it says; how a step turns both. -/
import Derived.Test.YtpafhjaidpmeeaaGreatDoorEv1
set_option linter.unusedVariables false
namespace Go.Ev
open Go.RowKit

/-- A deferred call. -/
inductive AD where
  | call (f : AV) (args : List AV)
  | coll (z : Nat)

abbrev Sl := Tr AV
def look (s : Sl) (t : Nat) : AV := match s.get t with
  | some a => a
  | none => .undef

/-- A loop over a function. -/
structure AL where
  state : LoopState
  pending : Option Code
  tmps : Sl
  n : Nat
  params : Array Tmp
  assign : Code
  body : Code
  defers : Nat

inductive OB where
  | row (ty esz : Nat) (cs : List AV) (ver : Nat) (full : Bool)
  | mp (es : List (AV × AV × Nat)) (clock : Nat)
  | sit (s : List Nat) (pos : Nat)
  | mit (m : Option Nat) (since : Nat) (seen : List Nat) (stepped : Nat)
  | loop (l : AL)
  | dfr (ds : Option (List AD))

def OB.ver : OB → Nat
  | .row _ _ _ r _ => r
  | _ => 0

structure H where
  t : Tr OB
  nx : Nat

def DR (E : Env) : AD → Deferred → Prop
  | .call f args, d => ∃ g caps us, d = { target := .fn (.func g) caps.toArray, args := us.toArray } ∧ ∃ cs, f = .fn g cs ∧ VRs E cs caps ∧ VRs E args us
  | .coll z, d => ∃ e, E z 0 = some e ∧ d = { target := .collected e.b, args := #[] }
def DRs (E : Env) : List AD → List Deferred → Prop
  | [], ds => ds = []
  | a :: as, ds => ∃ d r, ds = d :: r ∧ DR E a d ∧ DRs E as r
theorem DR.mono {E E' : Env} (h : E.le E') : ∀ {a : AD} {d : Deferred}, DR E a d → DR E' a d
  | .call f args, _, ⟨g, caps, us, h1, cs, h2, h3, h4⟩ => ⟨g, caps, us, h1, cs, h2, h3.mono h, h4.mono h⟩
  | .coll z, _, ⟨e, h1, h2⟩ => ⟨e, h _ _ _ h1, h2⟩
theorem DRs.mono {E E' : Env} (h : E.le E') : ∀ {as : List AD} {ds : List Deferred}, DRs E as ds → DRs E' as ds
  | [], _, k => k
  | a :: as, _, ⟨d, r, h1, h2, h3⟩ => ⟨d, r, h1, h2.mono h, DRs.mono h h3⟩

theorem DRs.append {E : Env} : ∀ {as bs : List AD} {ds es : List Deferred}, DRs E as ds → DRs E bs es → DRs E (as ++ bs) (ds ++ es)
  | [], bs, ds, es, h, k => by simp only [DRs] at h; subst h; exact k
  | a :: as, bs, ds, es, ⟨d, r, h1, h2, h3⟩, k => ⟨d, r ++ es, by rw [h1]; rfl, h2, DRs.append h3 k⟩
/-- Slots. -/
def SR (E : Env) (s : Sl) (n : Nat) (tmps : Array Value) : Prop := tmps.size = n ∧ ∀ t, VR E (look s t) (tmps.getD t Go.undef)
theorem SR.mono {E E' : Env} (h : E.le E') {s : Sl} {n : Nat} {tmps : Array Value} (k : SR E s n tmps) : SR E' s n tmps := ⟨k.1, fun t => (k.2 t).mono h⟩
theorem SR.put {E : Env} {s : Sl} {n : Nat} {tmps : Array Value} (k : SR E s n tmps) {d : Nat} (hd : d < n) {a : AV} {v : Value} (h : VR E a v) : SR E (s.put d a) n (tmps.setIfInBounds d v) := by
  refine ⟨by simpa using k.1, fun t => ?_⟩
  unfold look
  rw [Tr.get_put]
  by_cases ht : t = d
  · subst ht
    have : t < tmps.size := by rw [k.1]; exact hd
    simp [this, h]
  · rw [if_neg ht]
    have := k.2 t
    unfold look at this
    simp only [Array.getD_eq_getD_getElem?, Array.getElem?_setIfInBounds, if_neg (Ne.symm ht)] at this ⊢
    exact this

def ERs (E : Env) : List (AV × AV × Nat) → List MapEntry → Prop
  | [], es => es = []
  | (k, v, b) :: as, es => ∃ e r, es = e :: r ∧ VR E k e.key ∧ VR E v e.val ∧ e.born = b ∧ ERs E as r
theorem ERs.mono {E E' : Env} (h : E.le E') : ∀ {as : List (AV × AV × Nat)} {es : List MapEntry}, ERs E as es → ERs E' as es
  | [], _, k => k
  | (_, _, _) :: as, _, ⟨e, r, h1, h2, h3, h4, h5⟩ => ⟨e, r, h1, h2.mono h, h3.mono h, h4, ERs.mono h h5⟩

def LR (E : Env) (a : AL) (l : Loop) : Prop :=
  ∃ tm e f, SR E a.tmps a.n tm ∧ E a.defers 0 = some e ∧ l = { state := a.state, pending := a.pending, fn := f, tmps := tm, params := a.params, assign := a.assign, body := a.body, defers := e.b }

/-- What it is for a block of the machine's to be an object. -/
def OR (E : Env) (e : Ent) : OB → Obj → Prop
  | .row ty esz cs r full, ob => ∃ (cc : Array Value) (lo hi : Nat), ob = .cells cc ty (lo, hi) ∧ e.esz = esz ∧ cc.size + e.sub = e.top ∧ e.sub ≤ cs.length ∧ cs.length ≤ e.top ∧ (full = true → cs.length = e.top) ∧
      (∀ o, o < cc.size → ¬ (lo ≤ o ∧ o < hi)) ∧ ∀ i a, e.sub ≤ i → cs[i]? = some a → ∃ u, cc[i - e.sub]? = some u ∧ VR E a u
  | .mp es clock, ob => ∃ es', ob = .map es'.toArray clock ∧ ERs E es es'
  | .sit s pos, ob => ob = .stringIter (mkS s) pos ∧ ∀ x ∈ s, x < 256
  | .mit m since seen st, ob => ob = .mapIter (match m with | none => none | some z => (E z 0).map (·.b)) since seen.toArray st ∧ ∀ z, m = some z → (E z 0).isSome
  | .loop a, ob => ∃ l, ob = .loop l ∧ LR E a l
  | .dfr none, ob => ob = .deferred none
  | .dfr (some ds), ob => ∃ ds', ob = .deferred (some ds') ∧ DRs E ds ds'

theorem OR.mono {E E' : Env} (h : E.le E') {e : Ent} : ∀ {o : OB} {ob : Obj}, OR E e o ob → OR E' e o ob
  | .row ty esz cs r full, ob, ⟨cc, lo, hi, h1, h2, h3, h4, h5, h6, h7, h8⟩ => ⟨cc, lo, hi, h1, h2, h3, h4, h5, h6, h7, fun i a hi ha => let ⟨u, hu, hr⟩ := h8 i a hi ha; ⟨u, hu, hr.mono h⟩⟩
  | .mp es clock, ob, ⟨es', h1, h2⟩ => ⟨es', h1, h2.mono h⟩
  | .sit s pos, ob, k => k
  | .mit m since seen st, ob, ⟨h1, h2⟩ => by
    refine ⟨?_, fun z hz => ?_⟩
    · rw [h1]
      cases m with
      | none => rfl
      | some z =>
        obtain ⟨e', he'⟩ := Option.isSome_iff_exists.1 (h2 z rfl)
        simp only [he', h _ _ _ he']
    · obtain ⟨e', he'⟩ := Option.isSome_iff_exists.1 (h2 z hz)
      rw [h _ _ _ he']; rfl
  | .loop a, ob, ⟨l, h1, tm, e', f, h2, h3, h4⟩ => ⟨l, h1, tm, e', f, h2.mono h, h _ _ _ h3, h4⟩
  | .dfr none, ob, k => k
  | .dfr (some ds), ob, ⟨ds', h1, h2⟩ => ⟨ds', h1, h2.mono h⟩

structure Sat (E : Env) (h : H) (w : World) : Prop where
  obj : ∀ z o, h.t.get z = some o → ∃ e ob, E z o.ver = some e ∧ w.heap[e.b]? = some ob ∧ OR E e o ob
  inj : ∀ z z' o o' e e', h.t.get z = some o → h.t.get z' = some o' → E z o.ver = some e → E z' o'.ver = some e' → e.b = e'.b → z = z'
  fresh : ∀ z r e, E z r = some e → z < h.nx ∧ ∀ o, h.t.get z = some o → r ≤ o.ver

/-- The blocks that are spoken of. -/
def Img (E : Env) (h : H) (k : Nat) : Prop := ∃ z o e, h.t.get z = some o ∧ E z o.ver = some e ∧ e.b = k

/-- From one state to another. -/
structure Stp (E : Env) (h : H) (w : World) (E' : Env) (h' : H) (w' : World) : Prop where
  le : E.le E'
  sat : Sat E' h' w'
  os : w'.os = w.os
  tape : w'.tape = w.tape
  output : w'.output = w.output
  size : w.heap.size ≤ w'.heap.size
  blk : ∀ k, k < w.heap.size → ¬ Img E h k → w'.heap[k]? = w.heap[k]?
  im : ∀ k, k < w.heap.size → Img E' h' k → Img E h k
  keep : ∀ z o, h.t.get z = some o → ∃ o', h'.t.get z = some o'
  dom : ∀ z o, h'.t.get z = some o → z < h.nx → ∃ o', h.t.get z = some o'
  ent : ∀ z r e, E' z r = some e → E z r = some e ∨ ∃ o, h'.t.get z = some o
  nx : h.nx ≤ h'.nx

section
variable {E E' E'' : Env} {h h' h'' : H} {w w' w'' : World}
theorem Stp.refl (k : Sat E h w) : Stp E h w E h w := ⟨Env.le_refl _, k, rfl, rfl, rfl, Nat.le_refl _, fun _ _ _ => rfl, fun _ _ x => x, fun z o x => ⟨o, x⟩, fun z o x _ => ⟨o, x⟩, fun z r e x => .inl x, Nat.le_refl _⟩
theorem Stp.trans (a : Stp E h w E' h' w') (b : Stp E' h' w' E'' h'' w'') : Stp E h w E'' h'' w'' :=
  ⟨Env.le_trans a.le b.le, b.sat, b.os.trans a.os, b.tape.trans a.tape, b.output.trans a.output, Nat.le_trans a.size b.size,
    fun k hk hn => (b.blk k (Nat.lt_of_lt_of_le hk a.size) fun hi => hn (a.im k hk hi)).trans (a.blk k hk hn),
    fun k hk hi => a.im k hk (b.im k (Nat.lt_of_lt_of_le hk a.size) hi),
    fun z o hz => let ⟨o', h1⟩ := a.keep z o hz; b.keep z o' h1,
    fun z o hz hl => let ⟨o', h1⟩ := b.dom z o hz (Nat.lt_of_lt_of_le hl a.nx); a.dom z o' h1 hl,
    fun z r e he => by
      rcases b.ent z r e he with h1 | h1
      · rcases a.ent z r e h1 with h2 | ⟨o, h2⟩
        · exact .inl h2
        · exact .inr (b.keep z o h2)
      · exact .inr h1, Nat.le_trans a.nx b.nx⟩
/-- From nothing: what was there stands. -/
theorem Stp.below (a : Stp E h w E' h' w') (h0 : ∀ k, ¬ Img E h k) : Below w.heap.size w w' := ⟨a.os, a.tape, a.output, a.size, fun k hk => a.blk k hk (h0 k)⟩

theorem Sat.lt (s : Sat E h w) {z : Nat} {o : OB} (hz : h.t.get z = some o) : z < h.nx := by
  obtain ⟨e, ob, h1, _⟩ := s.obj z o hz
  exact (s.fresh z _ e h1).1
theorem Sat.blt (s : Sat E h w) {z : Nat} {o : OB} {e : Ent} (hz : h.t.get z = some o) (he : E z o.ver = some e) : e.b < w.heap.size := by
  obtain ⟨e', ob, h1, h2, _⟩ := s.obj z o hz
  rw [he] at h1; injection h1 with h1; subst h1
  exact (Array.getElem?_eq_some_iff.1 h2).1
/-- A draw turns nothing. -/
theorem Sat.drew (s : Sat E h w) (hh : w'.heap = w.heap) : Sat E h w' := ⟨fun z o hz => by rw [hh]; exact s.obj z o hz, s.inj, s.fresh⟩
theorem Stp.drew (s : Sat E h w) (hh : w'.heap = w.heap) (ho : w'.os = w.os) (ht : w'.tape = w.tape) (hu : w'.output = w.output) : Stp E h w E h w' :=
  ⟨Env.le_refl _, s.drew hh, ho, ht, hu, by rw [hh]; exact Nat.le_refl _, fun _ _ _ => by rw [hh], fun _ _ x => x, fun z o x => ⟨o, x⟩, fun z o x _ => ⟨o, x⟩, fun z r e x => .inl x, Nat.le_refl _⟩

def Env.upd (E : Env) (z r : Nat) (e : Ent) : Env := fun y q => if y = z ∧ q = r then some e else E y q
theorem Env.upd_eq (E : Env) (z r : Nat) (e : Ent) : E.upd z r e z r = some e := by simp [Env.upd]
theorem Env.upd_le {E : Env} {z r : Nat} {e : Ent} (hn : E z r = none) : E.le (E.upd z r e) := fun y q x hx => by
  unfold Env.upd
  split
  · rename_i hy; rw [hy.1, hy.2, hn] at hx; cases hx
  · exact hx
theorem Env.upd_ne {E : Env} {z r : Nat} {e : Ent} {y q : Nat} (hn : ¬ (y = z ∧ q = r)) : E.upd z r e y q = E y q := if_neg hn

def H.new (h : H) (o : OB) : H := ⟨h.t.put h.nx o, h.nx + 1⟩
def H.upd (h : H) (z : Nat) (o : OB) : H := ⟨h.t.put z o, h.nx⟩

/-- A new object. -/
theorem Stp.new (s : Sat E h w) {o : OB} (hv : o.ver = 0) {ob : Obj} {e : Ent} (he : e.b = w.heap.size) (hw : w'.heap = w.heap.push ob) (ho : w'.os = w.os) (ht : w'.tape = w.tape) (hu : w'.output = w.output)
    (hR : OR (E.upd h.nx 0 e) e o ob) : Stp E h w (E.upd h.nx 0 e) (h.new o) w' := by
  have hn : ∀ r, E h.nx r = none := fun r => by
    cases hx : E h.nx r with
    | none => rfl
    | some e' => exact absurd (s.fresh _ _ _ hx).1 (Nat.lt_irrefl _)
  have hnone : h.t.get h.nx = none := by
    cases hx : h.t.get h.nx with
    | none => rfl
    | some o' => exact absurd (s.lt hx) (Nat.lt_irrefl _)
  have hle : E.le (E.upd h.nx 0 e) := Env.upd_le (hn 0)
  have hget : ∀ z o', (h.new o).t.get z = some o' → (z = h.nx ∧ o' = o) ∨ (z ≠ h.nx ∧ h.t.get z = some o') := fun z o' hz => by
    unfold H.new at hz
    rw [Tr.get_put] at hz
    split at hz
    · rename_i hz'; injection hz with hz; exact .inl ⟨hz', hz.symm⟩
    · rename_i hz'; exact .inr ⟨hz', hz⟩
  have hE : ∀ z r, z ≠ h.nx → E.upd h.nx 0 e z r = E z r := fun z r hz => Env.upd_ne fun x => hz x.1
  refine ⟨hle, ⟨fun z o' hz => ?_, fun z z' o1 o2 e1 e2 h1 h2 h3 h4 h5 => ?_, fun z r e1 h1 => ?_⟩, ho, ht, hu, by rw [hw]; simp, fun k hk _ => ?_, fun k hk hi => ?_, fun z o' hz => ?_, fun z o' hz hl => ?_, fun z r e1 h1 => ?_, Nat.le_succ _⟩
  · rcases hget z o' hz with ⟨rfl, rfl⟩ | ⟨hne, hz⟩
    · refine ⟨e, ob, by rw [hv]; exact Env.upd_eq _ _ _ _, ?_, hR⟩
      rw [hw, he]; simp
    · obtain ⟨e1, ob1, h1, h2, h3⟩ := s.obj z o' hz
      refine ⟨e1, ob1, hle _ _ _ h1, ?_, h3.mono hle⟩
      rw [hw, Array.getElem?_push]
      rw [if_neg (by have := (Array.getElem?_eq_some_iff.1 h2).1; omega)]
      exact h2
  · rcases hget z o1 h1 with ⟨rfl, rfl⟩ | ⟨hne, g1⟩ <;> rcases hget z' o2 h2 with ⟨rfl, rfl⟩ | ⟨hne', g2⟩
    · rfl
    · rw [hv, Env.upd_eq] at h3; injection h3 with h3; subst h3
      rw [hE _ _ hne'] at h4
      have := s.blt g2 h4
      omega
    · rw [hv, Env.upd_eq] at h4; injection h4 with h4; subst h4
      rw [hE _ _ hne] at h3
      have := s.blt g1 h3
      omega
    · rw [hE _ _ hne] at h3; rw [hE _ _ hne'] at h4
      exact s.inj _ _ _ _ _ _ g1 g2 h3 h4 h5
  · by_cases hz : z = h.nx
    · subst hz
      refine ⟨Nat.lt_succ_self _, fun o' ho' => ?_⟩
      rcases hget _ o' ho' with ⟨_, rfl⟩ | ⟨hne, _⟩
      · by_cases hr : r = 0
        · subst hr; exact Nat.zero_le _
        · rw [Env.upd_ne (fun x => hr x.2), hn] at h1; cases h1
      · exact absurd rfl hne
    · rw [hE _ _ hz] at h1
      refine ⟨Nat.lt_succ_of_lt (s.fresh _ _ _ h1).1, fun o' ho' => ?_⟩
      rcases hget _ o' ho' with ⟨hz', _⟩ | ⟨_, h2⟩
      · exact absurd hz' hz
      · exact (s.fresh _ _ _ h1).2 o' h2
  · rw [hw, Array.getElem?_push, if_neg (by omega)]
  · obtain ⟨z, o', e1, h1, h2, h3⟩ := hi
    rcases hget z o' h1 with ⟨rfl, rfl⟩ | ⟨hne, h1⟩
    · rw [hv, Env.upd_eq] at h2; injection h2 with h2; subst h2; omega
    · rw [hE _ _ hne] at h2; exact ⟨z, o', e1, h1, h2, h3⟩
  · have hne : z ≠ h.nx := fun e => by subst e; rw [hnone] at hz; cases hz
    refine ⟨o', ?_⟩
    unfold H.new
    rw [Tr.get_put, if_neg hne]; exact hz
  · rcases hget z o' hz with ⟨rfl, rfl⟩ | ⟨hne, h1⟩
    · omega
    · exact ⟨o', h1⟩
  · by_cases hz : z = h.nx
    · right
      refine ⟨o, ?_⟩
      unfold H.new
      rw [Tr.get_put, if_pos hz]
    · rw [hE _ _ hz] at h1; exact .inl h1

/-- An object turns; at the same block. -/
theorem Stp.upd (s : Sat E h w) {z : Nat} {o o' : OB} (hz : h.t.get z = some o) {e : Ent} (hE : E z o.ver = some e) (hv : o'.ver = o.ver) {ob : Obj} (hw : w'.heap[e.b]? = some ob) (hoth : ∀ k, k ≠ e.b → w'.heap[k]? = w.heap[k]?) (hsz : w'.heap.size = w.heap.size)
    (ho : w'.os = w.os) (ht : w'.tape = w.tape) (hu : w'.output = w.output) (hR : OR E e o' ob) : Stp E h w E (h.upd z o') w' := by
  have hget : ∀ y o1, (h.upd z o').t.get y = some o1 → (y = z ∧ o1 = o') ∨ (y ≠ z ∧ h.t.get y = some o1) := fun y o1 hy => by
    unfold H.upd at hy
    rw [Tr.get_put] at hy
    split at hy
    · rename_i hy'; injection hy with hy; exact .inl ⟨hy', hy.symm⟩
    · rename_i hy'; exact .inr ⟨hy', hy⟩
  have hkp : ∀ y o1, h.t.get y = some o1 → ∃ o2, (h.upd z o').t.get y = some o2 := fun y o1 hy => by
    unfold H.upd
    rw [Tr.get_put]
    split
    · exact ⟨_, rfl⟩
    · exact ⟨o1, hy⟩
  refine ⟨Env.le_refl _, ⟨fun y o1 hy => ?_, fun y y' o1 o2 e1 e2 h1 h2 h3 h4 h5 => ?_, fun y r e1 h1 => ?_⟩, ho, ht, hu, by rw [hsz]; exact Nat.le_refl _, fun k hk hn => ?_, fun k hk hi => ?_, hkp, fun y o1 hy _ => ?_, fun y r e1 h1 => .inl h1, Nat.le_refl _⟩
  · rcases hget y o1 hy with ⟨rfl, rfl⟩ | ⟨hne, hy⟩
    · exact ⟨e, ob, by rw [hv]; exact hE, hw, hR⟩
    · obtain ⟨e1, ob1, h1, h2, h3⟩ := s.obj y o1 hy
      refine ⟨e1, ob1, h1, ?_, h3⟩
      rw [hoth _ fun hb => hne (s.inj _ _ _ _ _ _ hy hz h1 hE hb)]
      exact h2
  · have h1' : ∃ q, h.t.get y = some q ∧ E y q.ver = some e1 := by
      rcases hget y o1 h1 with ⟨rfl, rfl⟩ | ⟨_, h1⟩
      · exact ⟨o, hz, by rw [← hv]; exact h3⟩
      · exact ⟨o1, h1, h3⟩
    have h2' : ∃ q, h.t.get y' = some q ∧ E y' q.ver = some e2 := by
      rcases hget y' o2 h2 with ⟨rfl, rfl⟩ | ⟨_, h2⟩
      · exact ⟨o, hz, by rw [← hv]; exact h4⟩
      · exact ⟨o2, h2, h4⟩
    obtain ⟨q1, a1, b1⟩ := h1'
    obtain ⟨q2, a2, b2⟩ := h2'
    exact s.inj _ _ _ _ _ _ a1 a2 b1 b2 h5
  · refine ⟨(s.fresh _ _ _ h1).1, fun o1 ho1 => ?_⟩
    rcases hget y o1 ho1 with ⟨rfl, rfl⟩ | ⟨_, h2⟩
    · rw [hv]; exact (s.fresh _ _ _ h1).2 o hz
    · exact (s.fresh _ _ _ h1).2 o1 h2
  · exact hoth k fun hb => hn ⟨z, o, e, hz, hE, hb.symm⟩
  · obtain ⟨y, o1, e1, h1, h2, h3⟩ := hi
    rcases hget y o1 h1 with ⟨rfl, rfl⟩ | ⟨hne, h1⟩
    · exact ⟨y, o, e1, hz, by rw [← hv]; exact h2, h3⟩
    · exact ⟨y, o1, e1, h1, h2, h3⟩
  · rcases hget y o1 hy with ⟨rfl, rfl⟩ | ⟨_, h2⟩
    · exact ⟨o, hz⟩
    · exact ⟨o1, h2⟩

/-- An object takes a new shape: at its block, or at a new one. -/
theorem Stp.ver (s : Sat E h w) {z : Nat} {o o' : OB} (hz : h.t.get z = some o) {e e' : Ent} (hE : E z o.ver = some e) (hv : o'.ver = o.ver + 1) {ob : Obj} (hw : w'.heap[e'.b]? = some ob) (hb : e'.b = e.b ∨ e'.b = w.heap.size)
    (hoth : ∀ k, k < w.heap.size → k ≠ e'.b → w'.heap[k]? = w.heap[k]?) (hsz : w.heap.size ≤ w'.heap.size)
    (ho : w'.os = w.os) (ht : w'.tape = w.tape) (hu : w'.output = w.output) (hR : OR (E.upd z (o.ver + 1) e') e' o' ob) : Stp E h w (E.upd z (o.ver + 1) e') (h.upd z o') w' := by
  have hget : ∀ y o1, (h.upd z o').t.get y = some o1 → (y = z ∧ o1 = o') ∨ (y ≠ z ∧ h.t.get y = some o1) := fun y o1 hy => by
    unfold H.upd at hy
    rw [Tr.get_put] at hy
    split at hy
    · rename_i hy'; injection hy with hy; exact .inl ⟨hy', hy.symm⟩
    · rename_i hy'; exact .inr ⟨hy', hy⟩
  have hn : E z (o.ver + 1) = none := by
    cases hx : E z (o.ver + 1) with
    | none => rfl
    | some e1 => have := (s.fresh _ _ _ hx).2 o hz; omega
  have hle : E.le (E.upd z (o.ver + 1) e') := Env.upd_le hn
  have hEy : ∀ y r, y ≠ z → E.upd z (o.ver + 1) e' y r = E y r := fun y r hy => Env.upd_ne fun x => hy x.1
  have hblt : ∀ y o1 e1, y ≠ z → h.t.get y = some o1 → E y o1.ver = some e1 → e1.b ≠ e'.b := fun y o1 e1 hy h1 h2 hb' => by
    rcases hb with hb | hb
    · exact hy (s.inj _ _ _ _ _ _ h1 hz h2 hE (hb'.trans hb))
    · have := s.blt h1 h2; omega
  have hkp : ∀ y o1, h.t.get y = some o1 → ∃ o2, (h.upd z o').t.get y = some o2 := fun y o1 hy => by
    unfold H.upd
    rw [Tr.get_put]
    split
    · exact ⟨_, rfl⟩
    · exact ⟨o1, hy⟩
  refine ⟨hle, ⟨fun y o1 hy => ?_, fun y y' o1 o2 e1 e2 h1 h2 h3 h4 h5 => ?_, fun y r e1 h1 => ?_⟩, ho, ht, hu, hsz, fun k hk hn' => ?_, fun k hk hi => ?_, hkp, fun y o1 hy _ => ?_, fun y r e1 h1 => ?_, Nat.le_refl _⟩
  · rcases hget y o1 hy with ⟨rfl, rfl⟩ | ⟨hne, hy⟩
    · exact ⟨e', ob, by rw [hv]; exact Env.upd_eq _ _ _ _, hw, hR⟩
    · obtain ⟨e1, ob1, h1, h2, h3⟩ := s.obj y o1 hy
      refine ⟨e1, ob1, hle _ _ _ h1, ?_, h3.mono hle⟩
      rw [hoth _ (s.blt hy h1) (hblt y o1 e1 hne hy h1)]
      exact h2
  · rcases hget y o1 h1 with ⟨rfl, rfl⟩ | ⟨hne, g1⟩ <;> rcases hget y' o2 h2 with ⟨rfl, rfl⟩ | ⟨hne', g2⟩
    · rfl
    · rw [hv, Env.upd_eq] at h3; injection h3 with h3; subst h3
      rw [hEy _ _ hne'] at h4
      exact absurd h5.symm (hblt _ _ _ hne' g2 h4)
    · rw [hv, Env.upd_eq] at h4; injection h4 with h4; subst h4
      rw [hEy _ _ hne] at h3
      exact absurd h5 (hblt _ _ _ hne g1 h3)
    · rw [hEy _ _ hne] at h3; rw [hEy _ _ hne'] at h4
      exact s.inj _ _ _ _ _ _ g1 g2 h3 h4 h5
  · by_cases hy : y = z
    · subst hy
      have hlt : y < h.nx := s.lt hz
      refine ⟨hlt, fun o1 ho1 => ?_⟩
      rcases hget _ o1 ho1 with ⟨_, rfl⟩ | ⟨hne, _⟩
      · rw [hv]
        by_cases hr : r = o.ver + 1
        · omega
        · rw [Env.upd_ne (fun x => hr x.2)] at h1
          have := (s.fresh _ _ _ h1).2 o hz
          omega
      · exact absurd rfl hne
    · rw [hEy _ _ hy] at h1
      refine ⟨(s.fresh _ _ _ h1).1, fun o1 ho1 => ?_⟩
      rcases hget _ o1 ho1 with ⟨hy', _⟩ | ⟨_, h2⟩
      · exact absurd hy' hy
      · exact (s.fresh _ _ _ h1).2 o1 h2
  · refine hoth k hk fun hb' => ?_
    rcases hb with hb | hb
    · exact hn' ⟨z, o, e, hz, hE, hb.symm.trans hb'.symm⟩
    · omega
  · obtain ⟨y, o1, e1, h1, h2, h3⟩ := hi
    rcases hget y o1 h1 with ⟨rfl, rfl⟩ | ⟨hne, h1⟩
    · rw [hv, Env.upd_eq] at h2; injection h2 with h2; subst h2
      rcases hb with hb | hb
      · exact ⟨y, o, e, hz, hE, hb.symm.trans h3⟩
      · omega
    · rw [hEy _ _ hne] at h2; exact ⟨y, o1, e1, h1, h2, h3⟩
  · rcases hget y o1 hy with ⟨rfl, rfl⟩ | ⟨_, h2⟩
    · exact ⟨o, hz⟩
    · exact ⟨o1, h2⟩
  · by_cases hy : y = z
    · right; subst hy; exact hkp _ o hz
    · rw [hEy _ _ hy] at h1; exact .inl h1
end
end Go.Ev
