/- Words of this claim: the evaluator: regions, code, calls, ranges over functions. -/
import Derived.Test.YtpafhjaidpmeeaaGreatDoorEv12
import Derived.RangeFuncLeaves
set_option linter.unusedVariables false
set_option linter.unusedSimpArgs false
namespace Go.Ev
open Go.RowKit

inductive AEx where
  | normal
  | exit (id : Nat)
  | goto (l : Nat)
  | ret
  | panic (vs : List AV)
inductive AEnd where
  | ret (v : AV)
  | panic (vs : List AV)
inductive Task where
  | code (n : Nat) (rd : Option Nat) (c : Code) (s : Sl) (ds : List AD) (h : H)
  | call (c : Code) (n : Nat) (rs : List ResultVar) (args : List AV) (h : H)
  | round (z : Nat) (args : List AV) (h : H)
inductive Out where
  | code (e : AEx) (s : Sl) (ds : List AD) (h : H)
  | fin (e : AEnd) (h : H)
abbrev Rec := Task → Option Out

def wantA (ops : List Oper) (s : Sl) (o : Oper) : Bool := match o.guard with
  | none => true
  | some (j, want) => match ops[j]? with
    | some q => match q.dst with
      | some d => match look s d with
        | .bool b => match b, want with
          | true, true => true
          | false, false => true
          | _, _ => false
        | _ => false
      | none => false
    | none => false
def putA (n : Nat) (s : Sl) (d : Option Tmp) (v : AV) : Option Sl := match d with
  | none => some s
  | some d => match Nat.blt d n with
    | true => some (s.put d v)
    | false => none

/-- What comes of an operation: a value and a memory; a panic. -/
inductive OOut where
  | val (v : AV) (h : H)
  | panic (vs : List AV) (h : H)
  | defer (d : AD)
def ofFin : Option Out → Option OOut
  | some (.fin (.ret v) h) => some (.val v h)
  | some (.fin (.panic vs) h) => some (.panic vs h)
  | _ => none
def evOp (rec : Rec) (g : Pg) (s : Sl) (h : H) (o : Op) : Option OOut := match evO g s h o with
  | some (.val v h') => some (.val v h')
  | some (.skip h') => some (.val .undef h')
  | some (.call c n rs _ args) => ofFin (rec (.call c n rs args h))
  | some (.round z args) => ofFin (rec (.round z args h))
  | some (.panic v) => some (.panic [v] h)
  | some (.defer d) => some (.defer d)
  | none => none
def evOps (rec : Rec) (g : Pg) (n : Nat) (rd : Option Nat) (ops : List Oper) : List Oper → Sl → List AD → H → Option Out
  | [], s, ds, h => some (.code .normal s ds h)
  | o :: r, s, ds, h => match wantA ops s o with
    | false => match putA n s o.dst .undef with
      | some s => evOps rec g n rd ops r s ds h
      | none => none
    | true => match evOp rec g s h o.op with
      | some (.val v h) => match putA n s o.dst v with
        | some s => evOps rec g n rd ops r s ds h
        | none => none
      | some (.panic vs h) => some (.code (.panic vs) s ds h)
      | some (.defer d) => match rd, putA n s o.dst .undef with
        | none, some s => evOps rec g n rd ops r s (d :: ds) h
        | _, _ => none
      | none => none

/-- The rest of a way out. -/
def evExit (e : AEx) (s : Sl) (ds : List AD) (h : H) : Option Out := some (.code e s ds h)
def seqK (rec : Rec) (n : Nat) (rd : Option Nat) (b : Code) : Option Out → Option Out
  | some (.code .normal s ds h) => rec (.code n rd b s ds h)
  | r => r
def blockK (id : Nat) : Option Out → Option Out
  | some (.code (.exit j) s ds h) => match Nat.beq j id with
    | true => some (.code .normal s ds h)
    | false => some (.code (.exit j) s ds h)
  | r => r
def scopeK : Option Out → Option Out
  | some (.code (.goto _) _ _ _) => none
  | r => r
def endLoop (rec : Rec) (n : Nat) (rd : Option Nat) (z : Nat) (s : Sl) (ds : List AD) : Option Out → Option Out
  | some (.fin (.ret _) h) => match h.t.get z with
    | some (.loop l) => match l.state with
      | .busy => none
      | _ => match l.pending with
        | none => some (.code .normal s ds (h.upd z (.loop { l with state := .exhausted })))
        | some c => rec (.code n rd c s ds (h.upd z (.loop { l with state := .exhausted })))
    | _ => none
  | some (.fin (.panic vs) h) => some (.code (.panic vs) s ds h)
  | _ => none
/-- Where the rounds' deferred calls go: a block of the loop around, or a new one and its mark. -/
def around (h : H) : Option Nat → Option (Nat × List AD × H)
  | none => some (h.nx, [.coll h.nx], h.new (.dfr (some [])))
  | some l => match h.t.get l with
    | some (.loop a) => some (a.defers, [], h)
    | _ => none
def evRF (rec : Rec) (g : Pg) (n : Nat) (rd : Option Nat) (f : Operand) (ps : Array Tmp) (asg body : Code) (s : Sl) (ds : List AD) (h : H) : Option Out := match opd g.G s f, around h rd with
  | some (.fn f caps), some (d, mark, h1) => match g.F.at f with
    | some (.code c m rs) => endLoop rec n rd h1.nx s (mark ++ ds) (rec (.call c m rs (.yld h1.nx :: caps) (h1.new (.loop { state := .ready, pending := none, tmps := s, n := n, params := ps, assign := asg, body := body, defers := d }))))
    | _ => none
  | _, _ => none
def condK (rec : Rec) (n : Nat) (rd : Option Nat) (x y : Code) (s : Sl) (ds : List AD) (h : H) : Option AV → Option Out
  | some (.bool true) => rec (.code n rd x s ds h)
  | some (.bool false) => rec (.code n rd y s ds h)
  | _ => none
def stepCode (rec : Rec) (dr : Rec → Pg → Nat → Option Nat → List Oper → Sl → List AD → H → Option Out) (g : Pg) (n : Nat) (rd : Option Nat) (c : Code) (s : Sl) (ds : List AD) (h : H) : Option Out := match c with
  | .skip => some (.code .normal s ds h)
  | .label _ => some (.code .normal s ds h)
  | .ret => some (.code .ret s ds h)
  | .exit id => some (.code (.exit id) s ds h)
  | .seq a b => seqK rec n rd b (rec (.code n rd a s ds h))
  | .cond c x y => condK rec n rd x y s ds h (opd g.G s c)
  | .block id c => blockK id (rec (.code n rd c s ds h))
  | .loop c => seqK rec n rd (.loop c) (rec (.code n rd c s ds h))
  | .scope c => scopeK (rec (.code n rd c s ds h))
  | .region _ ops false => evOps rec g n rd ops.toList ops.toList s ds h
  | .region _ ops true => dr rec g n rd ops.toList s ds h
  | .rangeFunc f ps asg body => evRF rec g n rd f ps asg body s ds h
  | _ => none

/-- Results. -/
def evRes (T : TT) (s : Sl) (h : H) : List ResultVar → Option (List AV)
  | [] => some []
  | .tmp t :: r => match evRes T s h r with
    | some vs => some (look s t :: vs)
    | none => none
  | .cell t ty :: r => match aLoad T h ty (look s t), evRes T s h r with
    | some v, some vs => some (v :: vs)
    | _, _ => none
def tupV : List AV → AV
  | [v] => v
  | vs => .tup vs
/-- A function leaves. -/
def leave (T : TT) (rs : List ResultVar) (s : Sl) : List AD → Option (List AV) → H → Option Out
  | [], none, h => match evRes T s h rs with
    | some vs => some (.fin (.ret (tupV vs)) h)
    | none => none
  | [], some vs, h => some (.fin (.panic vs) h)
  | .coll z :: ds, u, h => match h.t.get z with
    | some (.dfr (some [])) => leave T rs s ds u (h.upd z (.dfr none))
    | _ => none
  | _ :: _, _, _ => none
def slots : Nat → List AV → Sl → Sl
  | _, [], s => s
  | i, a :: r, s => slots (i + 1) r (s.put i a)
def leaveK (T : TT) (rs : List ResultVar) : Option Out → Option Out
  | some (.code .normal s ds h) => leave T rs s ds none h
  | some (.code .ret s ds h) => leave T rs s ds none h
  | some (.code (.panic vs) s ds h) => leave T rs s ds (some vs) h
  | _ => none
def stepCall (rec : Rec) (g : Pg) (c : Code) (n : Nat) (rs : List ResultVar) (args : List AV) (h : H) : Option Out := match Nat.ble args.length n with
  | true => leaveK g.T rs (rec (.code n none c (slots 0 args .e) [] h))
  | false => none
/-- A round. -/
def putPs (n : Nat) : List Tmp → List AV → Sl → Option Sl
  | [], [], s => some s
  | t :: ts, a :: as, s => match Nat.blt t n with
    | true => putPs n ts as (s.put t a)
    | false => none
  | _, _, _ => none
def endRound (z : Nat) (h : H) (jump : Option Code) : Option Out := match h.t.get z with
  | some (.loop l) => match jump with
    | none => some (.fin (.ret (.bool true)) (h.upd z (.loop { l with state := .ready, pending := none })))
    | some c => some (.fin (.ret (.bool false)) (h.upd z (.loop { l with state := .done, pending := some c })))
  | _ => none
def roundK (z : Nat) : Option Out → Option Out
  | some (.code .normal _ _ h) => endRound z h none
  | some (.code .ret _ _ h) => endRound z h (some .ret)
  | some (.code (.exit id) _ _ h) => endRound z h (some (.exit id))
  | _ => none
def bodyK (rec : Rec) (n : Nat) (z : Nat) (body : Code) : Option Out → Option Out
  | some (.code .normal s ds h) => match h.t.get z with
    | some (.loop l) => match l.state with
      | .ready => roundK z (rec (.code n (some z) body s ds (h.upd z (.loop { l with state := .busy }))))
      | _ => none
    | _ => none
  | _ => none
def stepRound (rec : Rec) (z : Nat) (args : List AV) (h : H) : Option Out := match h.t.get z with
  | some (.loop l) => match putPs l.n l.params.toList args l.tmps with
    | some s => bodyK rec l.n z l.body (rec (.code l.n (some z) l.assign s [] h))
    | none => none
  | _ => none
def evStep (rec : Rec) (dr : Rec → Pg → Nat → Option Nat → List Oper → Sl → List AD → H → Option Out) (g : Pg) : Task → Option Out
  | .code n rd c s ds h => stepCode rec dr g n rd c s ds h
  | .call c n rs args h => stepCall rec g c n rs args h
  | .round z args h => stepRound rec z args h
def ev (dr : Rec → Pg → Nat → Option Nat → List Oper → Sl → List AD → H → Option Out) (g : Pg) : Nat → Task → Option Out
  | 0, _ => none
  | f + 1, t => evStep (ev dr g f) dr g t
/-- A call of a function by its number. -/
def evF (dr : Rec → Pg → Nat → Option Nat → List Oper → Sl → List AD → H → Option Out) (g : Pg) (fuel : Nat) (f : FuncId) (args : List AV) (h : H) : Option Out := match g.F.at f with
  | some (.code c n rs) => ev dr g fuel (.call c n rs args h)
  | _ => none

/-! ### The table of functions -/
def fiOf (fn : Func) : Option FI := match fn.body with
  | some c => match fn.name == "runtime.NumGoroutine" with
    | true => none
    | false => some (.code c fn.ntmps fn.results.toList)
  | none => none
def FT.of (P : Program) (xs : List (FuncId × XK)) : FT := Tr.ofL (P.funcs.size + 1) (P.funcs.toList.zipIdx.map fun x => match xs.lookup x.2 with
  | some k => some (.ext k)
  | none => fiOf x.1)
end Go.Ev
