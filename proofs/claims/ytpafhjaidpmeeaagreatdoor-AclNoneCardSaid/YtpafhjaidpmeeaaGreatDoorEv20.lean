/- Words of this claim: a region that draws its order: the plan and what is checked of it. -/
import Derived.Test.YtpafhjaidpmeeaaGreatDoorEv19
set_option linter.unusedVariables false
set_option linter.unusedSimpArgs false
namespace Go.Ev
open Go.RowKit

/-! ### What an operation looks at -/
def cOpnds : Call → List Operand
  | ⟨.value f, ⟨xs⟩, _⟩ => f :: xs
  | ⟨.builtin _, ⟨xs⟩, _⟩ => xs
  | ⟨.invoke r _, ⟨xs⟩, _⟩ => r :: xs
def opnds : Op → List Operand
  | .alloc _ => []
  | .makeMap _ none => []
  | .move x | .assign x | .box _ x | .load _ x | .nilCheck x | .unOp _ _ x | .convert _ _ x | .makeInterface _ x
  | .fieldAddr _ x _ | .field _ x _ | .range _ x | .next x _ | .typeAssert x _ _ _ | .extract x _ | .panic x => [x]
  | .pick c a b => [c, a, b]
  | .build _ ⟨ps⟩ | .buildSlice _ _ ⟨ps⟩ => ps.map (·.2)
  | .store _ a v | .binOp _ _ a v _ | .makeSlice _ a v | .indexAddr _ a v | .index _ a v | .lookup _ a v _ => [a, v]
  | .makeFunc (.func _) ⟨[]⟩ ⟨cs⟩ => cs
  | .mapUpdate _ m k v | .insert _ m k v => [m, k, v]
  | .call c => cOpnds c
  | o => o.operands.toList
theorem opnds_ok {o : Op} {x : Operand} (hx : x ∈ o.operands.toList) : (∃ t, x = .tmp t) → x ∈ opnds o := by
  rintro ⟨t, rfl⟩
  cases o with
  | call c =>
    obtain ⟨cl, ⟨xs⟩, ts⟩ := c
    cases cl <;> simpa [Op.operands, Call.operands, opnds, cOpnds] using hx
  | makeMap t r => cases r <;> first | (simp [Op.operands] at hx; done) | simpa [Op.operands, opnds] using hx
  | makeFunc f a b =>
    obtain ⟨a⟩ := a
    obtain ⟨b⟩ := b
    cases f <;> cases a <;> simpa [Op.operands, opnds] using hx
  | build t ps => obtain ⟨ps⟩ := ps; simpa [Op.operands, opnds] using hx
  | buildSlice t n ps => obtain ⟨ps⟩ := ps; simpa [Op.operands, opnds] using hx
  | _ => first | exact hx | simpa [Op.operands, opnds] using hx
def dstOf (ops : List Oper) (j : Nat) : Option Nat := match ops[j]? with
  | some o => o.dst
  | none => none
def tAll (f : Nat → Bool) : List Operand → Bool
  | [] => true
  | .tmp t :: r => match f t with
    | true => tAll f r
    | false => false
  | _ :: r => tAll f r
theorem tAll_ok {f : Nat → Bool} : ∀ {xs : List Operand}, tAll f xs = true → ∀ t, Operand.tmp t ∈ xs → f t = true
  | [], _, t, h => by simp at h
  | x :: r, h, t, hm => by
    cases x with
    | tmp u =>
      simp only [tAll] at h
      split at h
      · rename_i hu
        rcases List.mem_cons.1 hm with h1 | h1
        · injection h1 with h1; subst h1; exact hu
        · exact tAll_ok h t h1
      · cases h
    | _ =>
      simp only [tAll] at h
      rcases List.mem_cons.1 hm with h1 | h1
      · cases h1
      · exact tAll_ok h t h1
/-- The slots that an operation looks at. -/
def looksB (ops : List Oper) (f : Nat → Bool) (o : Oper) : Bool := match tAll f (opnds o.op) with
  | true => match o.guard with
    | none => true
    | some (j, _) => match dstOf ops j with
      | some d => f d
      | none => true
  | false => false
section
variable {ops : List Oper} {f : Nat → Bool} {o : Oper} {s s' : Sl}
theorem looks_opd (h : looksB ops f o = true) (hs : ∀ t, f t = true → look s t = look s' t) (G : Nat) : ∀ x ∈ o.op.operands.toList, opd G s x = opd G s' x := fun x hx => opd_congr fun t ht => by
  unfold looksB at h
  split at h
  · rename_i hq
    subst ht
    exact hs t (tAll_ok hq t (opnds_ok hx ⟨t, rfl⟩))
  · cases h
theorem looks_want (h : looksB ops f o = true) (hs : ∀ t, f t = true → look s t = look s' t) : wantA ops s o = wantA ops s' o := by
  unfold wantA
  unfold looksB at h
  split at h
  · cases hgd : o.guard with
    | none => rfl
    | some jw =>
      obtain ⟨j, want⟩ := jw
      rw [hgd] at h
      simp only [dstOf] at h ⊢
      cases hj : ops[j]? with
      | none => rfl
      | some q =>
        rw [hj] at h
        simp only at h ⊢
        cases hd : q.dst with
        | none => rfl
        | some d =>
          rw [hd] at h
          simp only at h ⊢
          rw [hs d h]
  · cases h
end

/-! ### Checked once for a region -/
/-- Which operation writes a slot. -/
def dstT (n : Nat) : Nat → List Oper → Tr Nat → Option (Tr Nat)
  | _, [], T => some T
  | j, o :: r, T => match o.dst with
    | none => dstT n (j + 1) r T
    | some d => match Nat.blt d n, T.get d with
      | true, none => dstT n (j + 1) r (T.put d j)
      | _, _ => none
theorem dstT_ok {n : Nat} : ∀ (r : List Oper) (j : Nat) (T T' : Tr Nat), dstT n j r T = some T' → (∀ d x, T.get d = some x → T'.get d = some x) ∧ ∀ i o d, r[i]? = some o → o.dst = some d → T'.get d = some (j + i) ∧ d < n
  | [], j, T, T', h => by simp only [dstT, Option.some.injEq] at h; subst h; exact ⟨fun _ _ h => h, fun i o d h => by simp at h⟩
  | x :: r, j, T, T', h => by
    simp only [dstT] at h
    cases hx : x.dst with
    | none =>
      rw [hx] at h
      simp only at h
      obtain ⟨h1, h2⟩ := dstT_ok r (j + 1) T T' h
      refine ⟨h1, fun i o d hi hd => ?_⟩
      cases i with
      | zero => simp at hi; subst hi; rw [hx] at hd; cases hd
      | succ i =>
        obtain ⟨h3, h4⟩ := h2 i o d (by simpa using hi) hd
        exact ⟨by rw [h3]; congr 1; omega, h4⟩
    | some d0 =>
      rw [hx] at h
      simp only at h
      split at h
      · rename_i hb hn
        obtain ⟨h1, h2⟩ := dstT_ok r (j + 1) _ T' h
        rw [blt_dec] at hb
        have hb : d0 < n := by simpa using hb
        refine ⟨fun d x hd => h1 d x ?_, fun i o d hi hd => ?_⟩
        · rw [Tr.get_put]
          split
          · rename_i he; subst he; rw [hn] at hd; cases hd
          · exact hd
        · cases i with
          | zero =>
            simp at hi; subst hi
            rw [hx] at hd; injection hd with hd; subst hd
            exact ⟨h1 _ _ (by rw [Tr.get_put, if_pos rfl]; rfl), hb⟩
          | succ i =>
            obtain ⟨h3, h4⟩ := h2 i o d (by simpa using hi) hd
            exact ⟨by rw [h3]; congr 1; omega, h4⟩
      · cases h
def slotB (T : Tr Nat) (ms : List Nat) (i m : Nat) (t : Nat) : Bool := match T.get t with
  | none => true
  | some j => match Nat.beq i j with
    | true => true
    | false => match Nat.blt j i with
      | true => Nat.testBit m j
      | false => match ms[j]? with
        | some mj => Nat.testBit mj i
        | none => false
def aftB (i : Nat) : List Edge → Bool
  | [] => true
  | e :: r => match Region.binds .any e with
    | true => match Nat.blt e.on i with
      | true => aftB i r
      | false => false
    | false => aftB i r
theorem aftB_ok {i : Nat} : ∀ {es : List Edge}, aftB i es = true → ∀ e ∈ es, Region.binds .any e = true → e.on < i
  | [], _, e, h => by simp at h
  | x :: r, h, e, hm => fun hb => by
    simp only [aftB] at h
    split at h
    · rename_i hx
      split at h
      · rename_i hl
        rcases List.mem_cons.1 hm with rfl | h1
        · rw [blt_dec] at hl; simpa using hl
        · exact aftB_ok h e h1 hb
      · cases h
    · rename_i hx
      rcases List.mem_cons.1 hm with rfl | h1
      · rw [hb] at hx; cases hx
      · exact aftB_ok h e h1 hb
def statB (ops : List Oper) (T : Tr Nat) (ms : List Nat) : Nat → List Oper → List Nat → Bool
  | i, o :: r, m :: ms' => match aftB i o.after.toList, looksB ops (slotB T ms i m) o with
    | true, true => statB ops T ms (i + 1) r ms'
    | _, _ => false
  | _, [], [] => true
  | _, _, _ => false
theorem statB_ok {ops : List Oper} {T : Tr Nat} {ms : List Nat} : ∀ {r : List Oper} {ms' : List Nat} {i : Nat}, statB ops T ms i r ms' = true → ms'.length = r.length ∧ ∀ (j : Nat) (o : Oper) (m : Nat), r[j]? = some o → ms'[j]? = some m → aftB (i + j) o.after.toList = true ∧ looksB ops (slotB T ms (i + j) m) o = true
  | [], [], i, _ => ⟨rfl, fun j o m h => by simp at h⟩
  | [], _ :: _, i, h => by simp [statB] at h
  | _ :: _, [], i, h => by simp [statB] at h
  | x :: r, y :: ms', i, h => by
    simp only [statB] at h
    split at h
    · rename_i h1 h2
      obtain ⟨h3, h4⟩ := statB_ok h
      refine ⟨by simp [h3], fun j o m ho hm => ?_⟩
      cases j with
      | zero => simp at ho hm; subst ho; subst hm; exact ⟨h1, h2⟩
      | succ j =>
        have := h4 j o m (by simpa using ho) (by simpa using hm)
        have he : i + (j + 1) = i + 1 + j := by omega
        rw [he]; exact this
    · cases h
def stat (n : Nat) (ops : List Oper) : Option (List Nat) := match dstT n 0 ops .e with
  | some T => match statB ops T (masks [] ops) 0 ops (masks [] ops) with
    | true => some (masks [] ops)
    | false => none
  | none => none

/-! ### First: one behind the other -/
def lstB (m : Nat) : Option Nat → Bool
  | none => true
  | some j => Nat.testBit m j
def d1 (rec : Rec) (g : Pg) (n : Nat) (ops : List Oper) (q0 : Nat) : List Oper → List Nat → Nat → Sl → H → Nat → Option Nat → List PE → List H → Option (List PE × List H × Sl × H)
  | [], _, _, s, h, _, _, pre, cs => some (pre, cs ++ [h], s, h)
  | _ :: _, [], _, _, _, _, _, _, _ => none
  | o :: r, m :: ms, i, s, h, k, lst, pre, cs => match wantA ops s o with
    | false => match putA n s o.dst .undef with
      | some s' => d1 rec g n ops q0 r ms (i + 1) s' h k lst (pre ++ [⟨.off, s, .undef⟩]) cs
      | none => none
    | true => match evP g.G g.T s o.op with
      | some v => match putA n s o.dst v with
        | some s' => d1 rec g n ops q0 r ms (i + 1) s' h k lst (pre ++ [⟨.pure, s, v⟩]) cs
        | none => none
      | none => match kind3 o.op with
        | .read => match evRd g s (view q0 (Nat.testBit m) pre h) o.op with
          | some v => match putA n s o.dst v with
            | some s' => d1 rec g n ops q0 r ms (i + 1) s' h k lst (pre ++ [⟨.read, s, v⟩]) cs
            | none => none
          | none => none
        | .new => match evNw g s (q0 + i) o.op with
          | some (v, ob) => match putA n s o.dst v with
            | some s' => d1 rec g n ops q0 r ms (i + 1) s' h k lst (pre ++ [⟨.new ob, s, v⟩]) cs
            | none => none
          | none => none
        | .eff => match lstB m lst, evOp rec g s (view q0 (Nat.testBit m) pre h) o.op with
          | true, some (.val v h') => match putA n s o.dst v with
            | some s' => d1 rec g n ops q0 r ms (i + 1) s' h' (k + 1) (some i) (pre ++ [⟨.eff k, s, v⟩]) (cs ++ [h])
            | none => none
          | _, _ => none

/-- What the slots are when the first i operations have come up. -/
def SF (ops : List Oper) (s0 : Sl) (PL : List PE) (i : Nat) (s : Sl) : Prop :=
  (∀ t, (∀ j, j < i → dstOf ops j ≠ some t) → look s t = look s0 t) ∧ ∀ j t, j < i → dstOf ops j = some t → ∃ p, PL[j]? = some p ∧ look s t = p.v
/-- What is known of an operation's place in the plan. -/
def Op1 (rec : Rec) (g : Pg) (ops : List Oper) (q0 : Nat) (PL : List PE) (CS : List H) (j : Nat) (o : Oper) (m : Nat) (p : PE) : Prop := match p.k with
  | .off => wantA ops p.s o = false ∧ p.v = .undef
  | .pure => wantA ops p.s o = true ∧ evP g.G g.T p.s o.op = some p.v
  | .read => wantA ops p.s o = true ∧ evP g.G g.T p.s o.op = none
  | .new ob => wantA ops p.s o = true ∧ evNw g p.s (q0 + j) o.op = some (p.v, ob)
  | .eff k => wantA ops p.s o = true ∧ (k = 0 ∨ ∃ j' p', m.testBit j' = true ∧ PL[j']? = some p' ∧ p'.k = .eff (k - 1)) ∧
      ∃ pre c c', CS[k]? = some c ∧ CS[k + 1]? = some c' ∧ (∀ (j : Nat) (x : PE), (pre : List PE)[j]? = some x → PL[j]? = some x) ∧ evOp rec g p.s (view q0 (Nat.testBit m) pre c) o.op = some (.val p.v c')
/-- The last of the operations that turn the memory. -/
def LastE (pre : List PE) (k : Nat) : Option Nat → Prop
  | none => k = 0
  | some j => ∃ kl p, k = kl + 1 ∧ pre[j]? = some p ∧ p.k = .eff kl
structure DR1 (rec : Rec) (g : Pg) (ops : List Oper) (q0 : Nat) (s0 : Sl) (r : List Oper) (ms : List Nat) (i : Nat) (h : H) (k : Nat) (pre : List PE) (cs : List H) (PL : List PE) (CS : List H) (s' : Sl) (h' : H) : Prop where
  pre : ∀ (j : Nat) (x : PE), pre[j]? = some x → PL[j]? = some x
  cs : ∀ (j : Nat) (x : H), cs[j]? = some x → CS[j]? = some x
  cur : CS[k]? = some h
  len : PL.length = i + r.length
  sf : SF ops s0 PL (i + r.length) s'
  fin : ∃ K lst, CS.length = K + 1 ∧ CS[K]? = some h' ∧ LastE PL K lst
  op : ∀ (j : Nat) (o : Oper) (m : Nat), r[j]? = some o → ms[j]? = some m → ∃ p, PL[i + j]? = some p ∧ SF ops s0 PL (i + j) p.s ∧ Op1 rec g ops q0 PL CS (i + j) o m p
  low : ∀ (j : Nat) (p : PE) (kk : Nat), i ≤ j → PL[j]? = some p → p.k = .eff kk → k ≤ kk
  one : ∀ (j j' : Nat) (p p' : PE) (kk : Nat), i ≤ j → i ≤ j' → PL[j]? = some p → PL[j']? = some p' → p.k = .eff kk → p'.k = .eff kk → j = j'
section
variable {rec : Rec} {g : Pg} {n : Nat} {ops : List Oper} {q0 : Nat} {s0 : Sl}
theorem SF.mono {PL PL' : List PE} {i : Nat} {s : Sl} (hp : ∀ (j : Nat) (x : PE), PL[j]? = some x → PL'[j]? = some x) (k : SF ops s0 PL i s) : SF ops s0 PL' i s := ⟨k.1, fun j t hj hd => let ⟨p, h1, h2⟩ := k.2 j t hj hd; ⟨p, hp _ _ h1, h2⟩⟩
theorem SF.put (hdist : ∀ j j' t, dstOf ops j = some t → dstOf ops j' = some t → j = j') {pre : List PE} {i : Nat} {s s' : Sl} {o : Oper} {pe : PE} (ho : ops[i]? = some o) (hl : pre.length = i) (k : SF ops s0 pre i s) (hp : putA n s o.dst pe.v = some s') : SF ops s0 (pre ++ [pe]) (i + 1) s' := by
  have hd : dstOf ops i = o.dst := by simp only [dstOf, ho]
  have hget : ∀ (j : Nat) (x : PE), pre[j]? = some x → (pre ++ [pe])[j]? = some x := fun j x hj => by rw [List.getElem?_append_left (List.getElem?_eq_some_iff.1 hj).1]; exact hj
  have hlast : (pre ++ [pe])[i]? = some pe := by subst hl; simp
  cases hod : o.dst with
  | none =>
    rw [hod] at hp; simp only [putA, Option.some.injEq] at hp; subst hp
    refine ⟨fun t ht => k.1 t fun j hj => ht j (by omega), fun j t hj hdj => ?_⟩
    by_cases hji : j = i
    · subst hji; rw [hd, hod] at hdj; cases hdj
    · obtain ⟨p, h1, h2⟩ := k.2 j t (by omega) hdj
      exact ⟨p, hget _ _ h1, h2⟩
  | some d =>
    rw [hod] at hp hd
    simp only [putA] at hp
    split at hp
    · injection hp with hp; subst hp
      have hlk : ∀ t, look (s.put d pe.v) t = if t = d then pe.v else look s t := fun t => by
        unfold look
        rw [Tr.get_put]
        by_cases h : t = d
        · rw [if_pos h, if_pos h]
        · rw [if_neg h, if_neg h]
      refine ⟨fun t ht => ?_, fun j t hj hdj => ?_⟩
      · rw [hlk, if_neg (fun e => ht i (by omega) (by rw [hd, e]))]
        exact k.1 t fun j hj => ht j (by omega)
      · by_cases hji : j = i
        · subst hji
          rw [hd] at hdj; injection hdj with hdj; subst hdj
          exact ⟨pe, hlast, by rw [hlk, if_pos rfl]⟩
        · obtain ⟨p, h1, h2⟩ := k.2 j t (by omega) hdj
          refine ⟨p, hget _ _ h1, ?_⟩
          rw [hlk, if_neg (fun e => hji (by subst e; exact hdist _ _ _ hdj hd))]
          exact h2
    · cases hp
theorem DR1.cons {r : List Oper} {ms : List Nat} {i : Nat} {s s1 : Sl} {h h1 : H} {k k1 : Nat} {pre : List PE} {cs cs1 : List H} {PL : List PE} {CS : List H} {s' : Sl} {h' : H} {o : Oper} {m : Nat} {pe : PE} (hl : pre.length = i) (hs : SF ops s0 pre i pe.s)
    (hk : (k1 = k ∧ h1 = h ∧ cs1 = cs ∧ ∀ kk, pe.k ≠ .eff kk) ∨ (k1 = k + 1 ∧ cs1 = cs ++ [h] ∧ cs.length = k ∧ pe.k = .eff k))
    (hop : (∀ (j : Nat) (x : PE), pre[j]? = some x → PL[j]? = some x) → CS[k]? = some h → CS[k1]? = some h1 → Op1 rec g ops q0 PL CS i o m pe)
    (d : DR1 rec g ops q0 s0 r ms (i + 1) h1 k1 (pre ++ [pe]) cs1 PL CS s' h') : DR1 rec g ops q0 s0 (o :: r) (m :: ms) i h k pre cs PL CS s' h' := by
  have hpre : ∀ (j : Nat) (x : PE), pre[j]? = some x → PL[j]? = some x := fun j x hj => d.pre j x (by rw [List.getElem?_append_left (List.getElem?_eq_some_iff.1 hj).1]; exact hj)
  have hlast : PL[i]? = some pe := d.pre i pe (by subst hl; simp)
  have hcur : CS[k]? = some h := by
    rcases hk with ⟨rfl, rfl, rfl, _⟩ | ⟨rfl, rfl, hc, _⟩
    · exact d.cur
    · exact d.cs k h (by subst hc; simp)
  have hle : k ≤ k1 := by rcases hk with ⟨rfl, _⟩ | ⟨rfl, _⟩ <;> omega
  refine ⟨hpre, fun j x hj => ?_, hcur, by rw [d.len]; simp; omega, ?_, d.fin, fun j o' m' ho hm => ?_, fun j p kk hj hp hpk => ?_, fun j j' p p' kk hj hj' hp hp' hpk hpk' => ?_⟩
  · rcases hk with ⟨rfl, rfl, rfl, _⟩ | ⟨rfl, rfl, hc, _⟩
    · exact d.cs j x hj
    · exact d.cs j x (by rw [List.getElem?_append_left (List.getElem?_eq_some_iff.1 hj).1]; exact hj)
  · have := d.sf
    have he : i + (o :: r).length = i + 1 + r.length := by simp; omega
    rw [he]; exact this
  · cases j with
    | zero =>
      simp at ho hm; subst ho; subst hm
      exact ⟨pe, hlast, hs.mono hpre, hop hpre hcur d.cur⟩
    | succ j =>
      have := d.op j o' m' (by simpa using ho) (by simpa using hm)
      have he : i + (j + 1) = i + 1 + j := by omega
      rw [he]; exact this
  · by_cases hji : j = i
    · subst hji
      rw [hlast] at hp; injection hp with hp; subst hp
      rcases hk with ⟨_, _, _, hne⟩ | ⟨_, _, _, he⟩
      · exact absurd hpk (hne kk)
      · rw [he] at hpk; injection hpk with hpk; omega
    · exact Nat.le_trans hle (d.low j p kk (by omega) hp hpk)
  · have key : ∀ j p, i ≤ j → PL[j]? = some p → p.k = .eff kk → pe.k = .eff kk → j = i := fun j p hj hp hpk hpe => by
      by_cases hji : j = i
      · exact hji
      · have := d.low j p kk (by omega) hp hpk
        rcases hk with ⟨_, _, _, hne⟩ | ⟨h1, _, _, he⟩
        · exact absurd hpe (hne kk)
        · rw [he] at hpe; injection hpe with hpe; omega
    by_cases hji : j = i
    · subst hji
      rw [hlast] at hp; injection hp with hp; subst hp
      exact (key j' p' hj' hp' hpk' hpk).symm
    · by_cases hji' : j' = i
      · subst hji'
        rw [hlast] at hp'; injection hp' with hp'; subst hp'
        exact key j p hj hp hpk hpk'
      · exact d.one j j' p p' kk (by omega) (by omega) hp hp' hpk hpk'
theorem d1_ok (hdist : ∀ j j' t, dstOf ops j = some t → dstOf ops j' = some t → j = j') : ∀ (r : List Oper) (ms : List Nat) (i : Nat) (s : Sl) (h : H) (k : Nat) (lst : Option Nat) (pre : List PE) (cs : List H) {PL : List PE} {CS : List H} {s' : Sl} {h' : H}, r = ops.drop i →
    d1 rec g n ops q0 r ms i s h k lst pre cs = some (PL, CS, s', h') → pre.length = i → cs.length = k → LastE pre k lst → SF ops s0 pre i s → DR1 rec g ops q0 s0 r ms i h k pre cs PL CS s' h'
  | [], ms, i, s, h, k, lst, pre, cs, PL, CS, s', h', hr, hd, hl, hc, hL, hS => by
    simp only [d1, Option.some.injEq, Prod.mk.injEq] at hd
    obtain ⟨rfl, rfl, rfl, rfl⟩ := hd
    subst hl; subst hc
    refine ⟨fun _ _ h => h, fun j x hj => by rw [List.getElem?_append_left (List.getElem?_eq_some_iff.1 hj).1]; exact hj, by simp, by simp, by simpa using hS, ⟨cs.length, lst, by simp, by simp, hL⟩, fun j o m ho => by simp at ho, fun j p kk hj hp => ?_, fun j j' p p' kk hj hj' hp => ?_⟩
    · have := (List.getElem?_eq_some_iff.1 hp).1; omega
    · have := (List.getElem?_eq_some_iff.1 hp).1; omega
  | o :: r, [], i, s, h, k, lst, pre, cs, PL, CS, s', h', hr, hd, hl, hc, hL, hS => by simp [d1] at hd
  | o :: r, m :: ms, i, s, h, k, lst, pre, cs, PL, CS, s', h', hr, hd, hl, hc, hL, hS => by
    have ho : ops[i]? = some o := by
      have h1 := congrArg (·[0]?) hr
      simp only [List.getElem?_cons_zero, List.getElem?_drop, Nat.add_zero] at h1
      exact h1.symm
    have hr' : r = ops.drop (i + 1) := by
      have h1 := congrArg List.tail hr
      simp only [List.tail_cons, List.tail_drop] at h1
      exact h1
    have hLm : ∀ {pe : PE}, LastE (pre ++ [pe]) k lst := fun {pe} => by
      cases lst with
      | none => exact hL
      | some j =>
        obtain ⟨kl, p, h1, h2, h3⟩ := hL
        exact ⟨kl, p, h1, by rw [List.getElem?_append_left (List.getElem?_eq_some_iff.1 h2).1]; exact h2, h3⟩
    have hlen : ∀ {pe : PE}, (pre ++ [pe]).length = i + 1 := fun {pe} => by simp [hl]
    simp only [d1] at hd
    split at hd
    · rename_i hw
      split at hd
      · rename_i s1 hs1
        exact DR1.cons (s := s) (s1 := s1) (pe := ⟨.off, s, .undef⟩) hl hS (.inl ⟨rfl, rfl, rfl, by simp⟩) (fun _ _ _ => ⟨hw, rfl⟩)
          (d1_ok hdist r ms (i + 1) s1 h k lst _ cs hr' hd hlen hc hLm (SF.put hdist (pe := ⟨.off, s, .undef⟩) ho hl hS hs1))
      · cases hd
    · rename_i hw
      split at hd
      · rename_i v hv
        split at hd
        · rename_i s1 hs1
          exact DR1.cons (s := s) (s1 := s1) (pe := ⟨.pure, s, v⟩) hl hS (.inl ⟨rfl, rfl, rfl, by simp⟩) (fun _ _ _ => ⟨hw, hv⟩)
            (d1_ok hdist r ms (i + 1) s1 h k lst _ cs hr' hd hlen hc hLm (SF.put hdist (pe := ⟨.pure, s, v⟩) ho hl hS hs1))
        · cases hd
      · rename_i hv
        split at hd
        · split at hd
          · rename_i v hq
            split at hd
            · rename_i s1 hs1
              exact DR1.cons (s := s) (s1 := s1) (pe := ⟨.read, s, v⟩) hl hS (.inl ⟨rfl, rfl, rfl, by simp⟩) (fun _ _ _ => ⟨hw, hv⟩)
                (d1_ok hdist r ms (i + 1) s1 h k lst _ cs hr' hd hlen hc hLm (SF.put hdist (pe := ⟨.read, s, v⟩) ho hl hS hs1))
            · cases hd
          · cases hd
        · split at hd
          · rename_i v ob hq
            split at hd
            · rename_i s1 hs1
              exact DR1.cons (s := s) (s1 := s1) (pe := ⟨.new ob, s, v⟩) hl hS (.inl ⟨rfl, rfl, rfl, by simp⟩) (fun _ _ _ => ⟨hw, hq⟩)
                (d1_ok hdist r ms (i + 1) s1 h k lst _ cs hr' hd hlen hc hLm (SF.put hdist (pe := ⟨.new ob, s, v⟩) ho hl hS hs1))
            · cases hd
          · cases hd
        · split at hd
          · rename_i v h1 hlst hq
            split at hd
            · rename_i s1 hs1
              have hput := SF.put hdist (pe := ⟨.eff k, s, v⟩) ho hl hS hs1
              refine DR1.cons (s := s) (s1 := s1) (h1 := h1) (k1 := k + 1) (cs1 := cs ++ [h]) (pe := ⟨.eff k, s, v⟩) hl hS (.inr ⟨rfl, rfl, hc, rfl⟩) (fun hp hk hk1 => ⟨hw, ?_, pre, h, h1, hk, hk1, hp, hq⟩)
                (d1_ok hdist r ms (i + 1) s1 h1 (k + 1) (some i) _ _ hr' hd hlen (by simp [hc]) ⟨k, ⟨.eff k, s, v⟩, rfl, by subst hl; simp, rfl⟩ hput)
              cases lst with
              | none => exact .inl hL
              | some j =>
                obtain ⟨kl, p, h1, h2, h3⟩ := hL
                exact .inr ⟨j, p, hlst, hp _ _ h2, by rw [h3, h1]; simp⟩
            · cases hd
          · cases hd
end
end Go.Ev
