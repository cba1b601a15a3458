/- Words of this claim: a region that draws its order: heaps laid over one another; what waits for what. -/
import Derived.Test.YtpafhjaidpmeeaaGreatDoorEv17
set_option linter.unusedVariables false
set_option linter.unusedSimpArgs false
namespace Go.Ev
open Go.RowKit

section
variable {E E0 E' : Env} {h h0 h' h1 h2 g1 g2 hb : H} {w w0 w' : World}
theorem Sat.congr (hg : ∀ z, h1.t.get z = h2.t.get z) (hn : h1.nx = h2.nx) (s : Sat E h1 w) : Sat E h2 w :=
  ⟨fun z o hz => s.obj z o ((hg z).trans hz), fun z z' o o' e e' a b c d => s.inj z z' o o' e e' ((hg z).trans a) ((hg z').trans b) c d, fun z r e he => ⟨by rw [← hn]; exact (s.fresh z r e he).1, fun o ho => (s.fresh z r e he).2 o ((hg z).trans ho)⟩⟩
theorem Stp.congr (hg : ∀ z, h1.t.get z = h2.t.get z) (hn : h1.nx = h2.nx) (s : Stp E0 h0 w0 E h1 w) : Stp E0 h0 w0 E h2 w :=
  ⟨s.le, s.sat.congr hg hn, s.os, s.tape, s.output, s.size, s.blk, fun k hk ⟨z, o, e, a, b, c⟩ => s.im k hk ⟨z, o, e, (hg z).trans a, b, c⟩,
    fun z o hz => let ⟨o', q⟩ := s.keep z o hz; ⟨o', (hg z).symm.trans q⟩, fun z o hz hl => s.dom z o ((hg z).trans hz) hl,
    fun z r e he => (s.ent z r e he).imp id fun ⟨o, q⟩ => ⟨o, (hg z).symm.trans q⟩, by rw [← hn]; exact s.nx⟩
theorem Sat.sub (s : Sat E hb w) (hs : ∀ z o, h.t.get z = some o → hb.t.get z = some o) (hn : hb.nx = h.nx) : Sat E h w :=
  ⟨fun z o hz => s.obj z o (hs z o hz), fun z z' o o' e e' a b c d => s.inj z z' o o' e e' (hs _ _ a) (hs _ _ b) c d, fun z r e he => ⟨by rw [← hn]; exact (s.fresh z r e he).1, fun o ho => (s.fresh z r e he).2 o (hs _ _ ho)⟩⟩
/-- What is left out of a step stands. -/
theorem Stp.frame (s : Sat E hb w) (hs : ∀ z o, h.t.get z = some o → hb.t.get z = some o) (hn : hb.nx = h.nx) (k : Stp E h w E' h' w') {hb' : H} (hg : ∀ z, hb'.t.get z = match h'.t.get z with
    | some o => some o
    | none => hb.t.get z) (hn' : hb'.nx = h'.nx) : Stp E hb w E' hb' w' := by
  have out : ∀ z o e, h'.t.get z = none → hb.t.get z = some o → E z o.ver = some e → ¬ Img E h e.b := fun z o e h1 h2 h3 ⟨y, o1, e1, q1, q2, q3⟩ => by
    have := s.inj _ _ _ _ _ _ (hs _ _ q1) h2 q2 h3 q3
    subst this
    obtain ⟨o', q⟩ := k.keep _ _ q1
    rw [h1] at q; cases q
  have old : ∀ z o, hb'.t.get z = some o → h'.t.get z = some o ∨ (h'.t.get z = none ∧ hb.t.get z = some o) := fun z o hz => by
    rw [hg] at hz
    cases hx : h'.t.get z with
    | none => rw [hx] at hz; exact .inr ⟨rfl, hz⟩
    | some o1 => rw [hx] at hz; exact .inl hz
  have new : ∀ z o, h'.t.get z = some o → hb'.t.get z = some o := fun z o hz => by rw [hg, hz]
  have keepb : ∀ z o, hb.t.get z = some o → ∃ o', hb'.t.get z = some o' := fun z o hz => by
    cases hx : h'.t.get z with
    | none => exact ⟨o, by rw [hg, hx]; exact hz⟩
    | some o1 => exact ⟨o1, new _ _ hx⟩
  have oldE : ∀ z o, hb.t.get z = some o → ∃ e, E z o.ver = some e ∧ E' z o.ver = some e := fun z o hz => by
    obtain ⟨e, ob, q1, _⟩ := s.obj z o hz
    exact ⟨e, q1, k.le _ _ _ q1⟩
  refine ⟨k.le, ⟨fun z o hz => ?_, fun z z' o o' e e' a b c d he => ?_, fun z r e he => ⟨by rw [hn']; exact (k.sat.fresh z r e he).1, fun o ho => ?_⟩⟩, k.os, k.tape, k.output, k.size, fun j hj hi => k.blk j hj fun ⟨y, o1, e1, q1, q2, q3⟩ => hi ⟨y, o1, e1, hs _ _ q1, q2, q3⟩, fun j hj hi => ?_, keepb, fun z o hz hl => ?_, fun z r e he => ?_, by rw [hn', hn]; exact k.nx⟩
  · rcases old z o hz with h3 | ⟨h3, h4⟩
    · exact k.sat.obj z o h3
    · obtain ⟨e, ob, q1, q2, q3⟩ := s.obj z o h4
      refine ⟨e, ob, k.le _ _ _ q1, ?_, q3.mono k.le⟩
      rw [k.blk e.b (Array.getElem?_eq_some_iff.1 q2).1 (out z o e h3 h4 q1)]
      exact q2
  · rcases old z o a with h3 | ⟨h3, h4⟩ <;> rcases old z' o' b with h5 | ⟨h5, h6⟩
    · exact k.sat.inj _ _ _ _ _ _ h3 h5 c d he
    · obtain ⟨e1, r1, r2⟩ := oldE z' o' h6
      rw [d] at r2; injection r2 with r2; subst r2
      exact absurd (k.im _ (s.blt h6 r1) ⟨z, o, e, h3, c, he⟩) (out z' o' e' h5 h6 r1)
    · obtain ⟨e1, r1, r2⟩ := oldE z o h4
      rw [c] at r2; injection r2 with r2; subst r2
      exact absurd (k.im _ (s.blt h4 r1) ⟨z', o', e', h5, d, he.symm⟩) (out z o e h3 h4 r1)
    · obtain ⟨e1, r1, r2⟩ := oldE z o h4
      rw [c] at r2; injection r2 with r2; subst r2
      obtain ⟨e2, r3, r4⟩ := oldE z' o' h6
      rw [d] at r4; injection r4 with r4; subst r4
      exact s.inj _ _ _ _ _ _ h4 h6 r1 r3 he
  · rcases old z o ho with h3 | ⟨h3, h4⟩
    · exact (k.sat.fresh z r e he).2 o h3
    · rcases k.ent z r e he with q | ⟨o', q⟩
      · exact (s.fresh z r e q).2 o h4
      · rw [h3] at q; cases q
  · obtain ⟨z, o, e, q1, q2, q3⟩ := hi
    rcases old z o q1 with h3 | ⟨h3, h4⟩
    · obtain ⟨y, o1, e1, r1, r2, r3⟩ := k.im j hj ⟨z, o, e, h3, q2, q3⟩
      exact ⟨y, o1, e1, hs _ _ r1, r2, r3⟩
    · obtain ⟨e1, r1, r2⟩ := oldE z o h4
      rw [q2] at r2; injection r2 with r2; subst r2
      exact ⟨z, o, e, h4, r1, q3⟩
  · rcases old z o hz with h3 | ⟨h3, h4⟩
    · obtain ⟨o', q⟩ := k.dom z o h3 (by rw [← hn]; exact hl)
      exact ⟨o', hs _ _ q⟩
    · exact ⟨o, h4⟩
  · rcases k.ent z r e he with q | ⟨o', q⟩
    · exact .inl q
    · exact .inr ⟨o', new _ _ q⟩

/-- A new object at a number that was kept for it. -/
theorem Stp.newAt (k : Stp E0 h0 w0 E h w) {z : Nat} (hz0 : h0.nx ≤ z) (hzn : z < h.nx) (hE : ∀ r, E z r = none) (hnone : h.t.get z = none) {o : OB} (hv : o.ver = 0) {ob : Obj} {e : Ent} (he : e.b = w.heap.size) (hw : w'.heap = w.heap.push ob) (ho : w'.os = w.os) (ht : w'.tape = w.tape) (hu : w'.output = w.output)
    (hR : OR (E.upd z 0 e) e o ob) (hb' : h'.nx = h.nx) (hg : ∀ y, h'.t.get y = if y = z then some o else h.t.get y) : Stp E0 h0 w0 (E.upd z 0 e) h' w' := by
  have s := k.sat
  have hle : E.le (E.upd z 0 e) := Env.upd_le (hE 0)
  have hget : ∀ y o', h'.t.get y = some o' → (y = z ∧ o' = o) ∨ (y ≠ z ∧ h.t.get y = some o') := fun y o' hy => by
    rw [hg] at hy
    split at hy
    · rename_i hy'; injection hy with hy; exact .inl ⟨hy', hy.symm⟩
    · rename_i hy'; exact .inr ⟨hy', hy⟩
  have hEy : ∀ y r, y ≠ z → E.upd z 0 e y r = E y r := fun y r hy => Env.upd_ne fun x => hy x.1
  have hkp : ∀ y o', h.t.get y = some o' → h'.t.get y = some o' := fun y o' hy => by
    rw [hg, if_neg (fun x => by subst x; rw [hnone] at hy; cases hy)]; exact hy
  refine ⟨Env.le_trans k.le hle, ⟨fun y o' hy => ?_, fun y y' o1 o2 e1 e2 a b c d h5 => ?_, fun y r e1 a => ?_⟩, ho.trans k.os, ht.trans k.tape, hu.trans k.output, by rw [hw]; simp; exact Nat.le_succ_of_le k.size, fun j hj hi => ?_, fun j hj hi => ?_, fun y o' hy => ?_, fun y o' hy hl => ?_, fun y r e1 a => ?_, by rw [hb']; exact k.nx⟩
  · rcases hget y o' hy with ⟨rfl, rfl⟩ | ⟨hne, hy⟩
    · exact ⟨e, ob, by rw [hv]; exact Env.upd_eq _ _ _ _, by rw [hw, he]; simp, hR⟩
    · obtain ⟨e1, ob1, q1, q2, q3⟩ := s.obj y o' hy
      refine ⟨e1, ob1, hle _ _ _ q1, ?_, q3.mono hle⟩
      rw [hw, Array.getElem?_push, if_neg (by have := (Array.getElem?_eq_some_iff.1 q2).1; omega)]
      exact q2
  · rcases hget y o1 a with ⟨rfl, rfl⟩ | ⟨hne, a1⟩ <;> rcases hget y' o2 b with ⟨rfl, rfl⟩ | ⟨hne', b1⟩
    · rfl
    · rw [hv, Env.upd_eq] at c; injection c with c; subst c
      rw [hEy _ _ hne'] at d
      have := s.blt b1 d
      omega
    · rw [hv, Env.upd_eq] at d; injection d with d; subst d
      rw [hEy _ _ hne] at c
      have := s.blt a1 c
      omega
    · rw [hEy _ _ hne] at c; rw [hEy _ _ hne'] at d
      exact s.inj _ _ _ _ _ _ a1 b1 c d h5
  · by_cases hy : y = z
    · subst hy
      refine ⟨by rw [hb']; exact hzn, fun o' ho' => ?_⟩
      rcases hget _ o' ho' with ⟨_, rfl⟩ | ⟨hne, _⟩
      · by_cases hr : r = 0
        · subst hr; exact Nat.zero_le _
        · rw [Env.upd_ne (fun x => hr x.2), hE] at a; cases a
      · exact absurd rfl hne
    · rw [hEy _ _ hy] at a
      refine ⟨by rw [hb']; exact (s.fresh _ _ _ a).1, fun o' ho' => ?_⟩
      rcases hget _ o' ho' with ⟨hy', _⟩ | ⟨_, q⟩
      · exact absurd hy' hy
      · exact (s.fresh _ _ _ a).2 o' q
  · rw [hw, Array.getElem?_push, if_neg (by have := k.size; omega)]
    exact k.blk j hj hi
  · obtain ⟨y, o', e1, q1, q2, q3⟩ := hi
    rcases hget y o' q1 with ⟨rfl, rfl⟩ | ⟨hne, q1⟩
    · rw [hv, Env.upd_eq] at q2; injection q2 with q2; subst q2
      have := k.size
      omega
    · rw [hEy _ _ hne] at q2; exact k.im j hj ⟨y, o', e1, q1, q2, q3⟩
  · obtain ⟨o1, q⟩ := k.keep y o' hy
    exact ⟨o1, hkp _ _ q⟩
  · rcases hget y o' hy with ⟨rfl, rfl⟩ | ⟨_, q⟩
    · omega
    · exact k.dom y o' q hl
  · by_cases hy : y = z
    · right; exact ⟨o, by rw [hg, if_pos hy]⟩
    · rw [hEy _ _ hy] at a
      rcases k.ent y r e1 a with q | ⟨o', q⟩
      · exact .inl q
      · exact .inr ⟨o', hkp _ _ q⟩
end

/-! ### What waits for what -/
def mask1 (acc : List Nat) : List Edge → Nat
  | [] => 0
  | e :: r => match Region.binds .any e with
    | true => Nat.lor (Nat.lor (2 ^ e.on) ((acc[e.on]?).getD 0)) (mask1 acc r)
    | false => mask1 acc r
def masks : List Nat → List Oper → List Nat
  | acc, [] => acc
  | acc, o :: r => masks (acc ++ [mask1 acc o.after.toList]) r
theorem mask1_bit {acc : List Nat} {j : Nat} : ∀ {es : List Edge}, (mask1 acc es).testBit j = true → ∃ e ∈ es, Region.binds .any e = true ∧ (j = e.on ∨ ∃ m, acc[e.on]? = some m ∧ m.testBit j = true)
  | [], h => by simp [mask1] at h
  | e :: r, h => by
    simp only [mask1] at h
    split at h
    · rename_i hb
      have h' : ((2 ^ e.on ||| (acc[e.on]?).getD 0) ||| mask1 acc r).testBit j = true := h
      rw [Nat.testBit_or, Nat.testBit_or, Bool.or_eq_true, Bool.or_eq_true] at h'
      rcases h' with (h' | h') | h'
      · rw [Nat.testBit_two_pow] at h'
        exact ⟨e, by simp, hb, .inl (by simpa using h'.symm : e.on = j).symm⟩
      · cases hx : acc[e.on]? with
        | none => rw [hx] at h'; simp at h'
        | some m => rw [hx] at h'; exact ⟨e, by simp, hb, .inr ⟨m, hx, h'⟩⟩
      · obtain ⟨e', he', q⟩ := mask1_bit h'
        exact ⟨e', by simp [he'], q⟩
    · obtain ⟨e', he', q⟩ := mask1_bit h
      exact ⟨e', by simp [he'], q⟩
theorem masks_get : ∀ (ops : List Oper) (acc : List Nat) (i : Nat) (o : Oper), ops[i]? = some o → ∃ pre : List Nat, (masks acc ops)[acc.length + i]? = some (mask1 pre o.after.toList) ∧ pre.length = acc.length + i ∧ ∀ (j m : Nat), pre[j]? = some m → (masks acc ops)[j]? = some m
  | [], acc, i, o, h => by simp at h
  | x :: r, acc, i, o, h => by
    have hpre : ∀ (ops : List Oper) (acc : List Nat) (j : Nat) (m : Nat), acc[j]? = some m → (masks acc ops)[j]? = some m := by
      intro ops
      induction ops with
      | nil => intro acc j m h; exact h
      | cons y r ih => intro acc j m h; exact ih _ j m (by rw [List.getElem?_append_left (List.getElem?_eq_some_iff.1 h).1]; exact h)
    cases i with
    | zero =>
      simp at h; subst h
      refine ⟨acc, ?_, rfl, fun j m hj => hpre _ _ _ _ hj⟩
      simp only [masks, Nat.add_zero]
      exact hpre _ _ _ _ (by simp)
    | succ i =>
      obtain ⟨pre, h1, h2, h3⟩ := masks_get r (acc ++ [mask1 acc x.after.toList]) i o (by simpa using h)
      simp only [List.length_append, List.length_singleton] at h1 h2
      exact ⟨pre, by simp only [masks]; rw [← h1]; congr 1; omega, by omega, h3⟩
/-- All that is ahead of an operation has come up, if what it waits for has. -/
theorem ahead_of {ops : List Oper} {L : Nat → Bool} (hcl : ∀ i o, ops[i]? = some o → L i = true → ∀ e ∈ o.after, Region.binds .any e = true → L e.on = true) :
    ∀ (i : Nat) (o : Oper) (m : Nat), ops[i]? = some o → (masks [] ops)[i]? = some m → (∀ e ∈ o.after, Region.binds .any e = true → L e.on = true) → ∀ j, m.testBit j = true → L j = true := by
  intro i
  induction i using Nat.strongRecOn with
  | _ i ih =>
    intro o m ho hm hall j hj
    obtain ⟨pre, h1, h2, h3⟩ := masks_get ops [] i o ho
    simp only [List.length_nil, Nat.zero_add] at h1 h2
    rw [hm] at h1; injection h1 with h1; subst h1
    obtain ⟨e, he, hb, hor⟩ := mask1_bit hj
    have hL := hall e (by simpa using he) hb
    rcases hor with rfl | ⟨m', hm', hj'⟩
    · exact hL
    · have hlt : e.on < i := by have := (List.getElem?_eq_some_iff.1 hm').1; omega
      have hm2 := h3 _ _ hm'
      cases ho' : ops[e.on]? with
      | none =>
        exfalso
        have h5 := List.getElem?_eq_none_iff.1 ho'
        have h6 := (List.getElem?_eq_some_iff.1 ho).1
        omega
      | some o' => exact ih e.on hlt o' m' ho' hm2 (hcl _ _ ho' hL) j hj'
/-- Laid over: objects that the region's own operations lay. -/
inductive EK where
  | off
  | pure
  | read
  | new (o : OB)
  | eff (k : Nat)
structure PE where
  k : EK
  s : Sl
  v : AV
def viewF (q0 : Nat) (f : Nat → Bool) (core : H) : Nat → List PE → Tr OB → Tr OB
  | _, [], t => t
  | j, p :: r, t => match p.k with
    | .new o => match f j, core.t.get (q0 + j) with
      | true, none => viewF q0 f core (j + 1) r (t.put (q0 + j) o)
      | _, _ => viewF q0 f core (j + 1) r t
    | _ => viewF q0 f core (j + 1) r t
def view (q0 : Nat) (f : Nat → Bool) (pl : List PE) (core : H) : H := ⟨viewF q0 f core 0 pl core.t, core.nx⟩
theorem viewF_get (q0 : Nat) (f : Nat → Bool) (core : H) : ∀ (pl : List PE) (j : Nat) (t : Tr OB) (z : Nat), (viewF q0 f core j pl t).get z = if core.t.get z = none ∧ q0 + j ≤ z ∧ f (z - q0) = true then (match pl[z - q0 - j]? with
    | some ⟨.new o, _, _⟩ => some o
    | _ => t.get z) else t.get z
  | [], j, t, z => by simp [viewF]
  | p :: r, j, t, z => by
    obtain ⟨k, s, v⟩ := p
    have ih := viewF_get q0 f core r (j + 1)
    have key : ∀ t' : Tr OB, (q0 + j ≠ z → t'.get z = t.get z) → (viewF q0 f core (j + 1) r t').get z = if z = q0 + j then t'.get z else if core.t.get z = none ∧ q0 + j ≤ z ∧ f (z - q0) = true then (match (⟨k, s, v⟩ :: r)[z - q0 - j]? with
        | some ⟨.new o, _, _⟩ => some o
        | _ => t.get z) else t.get z := fun t' ht => by
      rw [ih t' z]
      by_cases hz : z = q0 + j
      · rw [if_pos hz, if_neg (by omega)]
      · rw [if_neg hz]
        rw [ht (Ne.symm hz)]
        by_cases hc : core.t.get z = none ∧ q0 + j ≤ z ∧ f (z - q0) = true
        · rw [if_pos hc, if_pos ⟨hc.1, by omega, hc.2.2⟩]
          have : z - q0 - j = (z - q0 - (j + 1)) + 1 := by omega
          rw [this, List.getElem?_cons_succ]
        · rw [if_neg hc, if_neg (fun hx => hc ⟨hx.1, by omega, hx.2.2⟩)]
    cases k with
    | new o =>
      simp only [viewF]
      split
      · rename_i hf hcore
        rw [key _ (fun hne => by rw [Tr.get_put, if_neg (Ne.symm hne)])]
        by_cases hz : z = q0 + j
        · subst hz
          rw [if_pos rfl, Tr.get_put, if_pos rfl, if_pos ⟨hcore, Nat.le_refl _, by rw [Nat.add_sub_cancel_left]; exact hf⟩]
          simp
        · rw [if_neg hz]
      · rename_i hnot
        rw [key _ (fun _ => rfl)]
        by_cases hz : z = q0 + j
        · subst hz
          rw [if_pos rfl, if_neg]
          rintro ⟨h1, _, h2⟩
          rw [Nat.add_sub_cancel_left] at h2
          exact hnot h2 h1
        · rw [if_neg hz]
    | _ =>
      simp only [viewF]
      rw [key _ (fun _ => rfl)]
      by_cases hz : z = q0 + j
      · subst hz
        simp
      · rw [if_neg hz]
theorem view_get (q0 : Nat) (f : Nat → Bool) (pl : List PE) (core : H) (z : Nat) : (view q0 f pl core).t.get z = match core.t.get z with
    | some o => some o
    | none => if q0 ≤ z ∧ f (z - q0) = true then (match pl[z - q0]? with
      | some ⟨.new o, _, _⟩ => some o
      | _ => none) else none := by
  unfold view
  simp only
  rw [viewF_get]
  cases hc : core.t.get z with
  | none => simp [hc]
  | some o => simp
end Go.Ev
