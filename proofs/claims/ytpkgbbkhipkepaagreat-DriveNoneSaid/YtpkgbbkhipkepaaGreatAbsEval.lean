/-
  THE ABSTRACT MACHINE's EVALUATOR.
-/
import Derived.Test.YtpkgbbkhipkepaaGreatAbsPrep
namespace Go.Abs

inductive AEx where
  | normal
  | exit (id : Nat)
  | goto (l : Nat)
  | ret
  deriving DecidableEq, Inhabited

/-- What is called. -/
inductive ACal where
  | f (g : FuncId)
  | y (o : Nat)
  | d (g : FuncId)
  deriving Inhabited

/-- A deferred call: a function, its arguments; or the mark of a range over a function (the block of its deferred calls: none here). -/
inductive ADef where
  | call (g : FuncId) (args : List AV)
  | mark (o : Nat)
  deriving Inhabited

structure ASt where
  σ : List AV
  H : AH
  ds : List ADef
  deriving Inhabited

structure AFunc where
  ntmps : Nat
  results : List (Nat × Option (Option Nat))     -- a temporary; or a variable's address, and how it is loaded
  body : ACode
  fz : Bool
  deriving Inhabited

def wanted (σ : List AV) : Option (Tmp × Bool) → Bool
  | none => true
  | some (t, b) => match σ.getD t .und with
    | .lit (.bool c) => c == b
    | _ => false

def put (σ : List AV) (dst : Option Tmp) (v : AV) : List AV :=
  match dst with
  | some d => σ.set d v
  | none => σ

abbrev Caller := ACal → List AV → AH → Option (AV × AH)

/-- Who is called, with which arguments. -/
def resolveA (σ : List AV) (f : Operand) (args : List Operand) : Option (ACal × List AV) :=
  match evalO σ f with
  | .fn g first captured => some (.f g, first ++ args.map (evalO σ) ++ captured)
  | .yld o => some (.y o, args.map (evalO σ))
  | _ => none

def evalOp (call : Caller) (o : AOper) (s : ASt) : Option ASt :=
  if wanted s.σ o.guard then
    match o.op with
    | .call f args => match resolveA s.σ f args with
      | some (c, as) => match call c as s.H with
        | some (v, H) => some { s with σ := put s.σ o.dst v, H }
        | none => none
      | none => none
    | .defer f args => match resolveA s.σ f args with
      | some (.f g, as) => some { s with σ := put s.σ o.dst .und, ds := .call g as :: s.ds }
      | _ => none
    | op => match aop s.σ s.H op with
      | some (v, H) => some { s with σ := put s.σ o.dst v, H }
      | none => none
  else some { s with σ := put s.σ o.dst .und }

def evalOps (call : Caller) : List AOper → ASt → Option ASt
  | [], s => some s
  | o :: rest, s => match evalOp call o s with
    | some s' => evalOps call rest s'
    | none => none

/-- Would it have yielded the same on the heaps of before? -/
def backs (op : AOp) (σ : List AV) (v : AV) (hist : List AH) : Bool :=
  op.makes || (op.reads.all fun x => (named (evalO σ x)).isNone) || hist.all fun H => match aop σ H op with
    | some (u, _) => avBeq 64 v u
    | none => false

/-- A region that draws its order: one number is reserved for each operation. -/
def evalDraw (call : Caller) (base : Nat) : List AOper → ASt → List AH → Option ASt
  | [], s, _ => some s
  | o :: rest, s, hist =>
    if o.op.chain then match evalOp call o s with
      | some s' => evalDraw call base rest s' (s.H :: hist)
      | none => none
    else if wanted s.σ o.guard then
      if o.op.makes && Nat.ble s.H.n (base + o.idx) then none
      else match aop s.σ { s.H with n := base + o.idx } o.op with
        | some (v, H) => if backs o.op s.σ v (hist.take o.back) then evalDraw call base rest { s with σ := put s.σ o.dst v, H := { H with n := s.H.n } } hist else none
        | none => none
    else evalDraw call base rest { s with σ := put s.σ o.dst .und } hist

def reserve : Nat → AH → AH
  | 0, H => H
  | n + 1, H => reserve n (H.push .dead)

/-- How many numbers are reserved: one for each operation, if one of them makes an object. -/
def slots (ops : List AOper) : Nat := if ops.any (·.op.makes) then ops.length else 0

def hasL : ACode → Nat → Bool
  | .seq a b, l => hasL a l || hasL b l
  | .label l', l => l' == l
  | _, _ => false

def scopeA (has : Nat → Bool) (body : Option Nat → ASt → Option (AEx × ASt)) : Nat → Option Nat → ASt → Option (AEx × ASt)
  | 0, _, _ => none
  | n + 1, st, s => match body st s with
    | some (.goto l, s') => if has l then scopeA has body n (some l) s' else some (.goto l, s')
    | r => r

def loopA (body : ASt → Option (AEx × ASt)) : Nat → ASt → Option (AEx × ASt)
  | 0, _ => none
  | n + 1, s => match body s with
    | some (.normal, s') => loopA body n s'
    | r => r

/-- Code; from a label on, if one is given. -/
def evalC (call : Caller) (lim : Nat) : ACode → Option Nat → ASt → Option (AEx × ASt)
  | .skip, none, s => some (.normal, s)
  | .region _ ops draw, none, s => (if draw then evalDraw call s.H.n ops { s with H := reserve (slots ops) s.H } [] else evalOps call ops s).map fun s' => (.normal, s')
  | .seq a b, none, s => match evalC call lim a none s with
    | some (.normal, s') => evalC call lim b none s'
    | r => r
  | .seq a b, some l, s =>
    if hasL a l then match evalC call lim a (some l) s with
      | some (.normal, s') => evalC call lim b none s'
      | r => r
    else evalC call lim b (some l) s
  | .cond c a b, none, s => match evalO s.σ c with
    | .lit (.bool true) => evalC call lim a none s
    | .lit (.bool false) => evalC call lim b none s
    | _ => none
  | .block id c, none, s => match evalC call lim c none s with
    | some (.exit id', s') => if id' = id then some (.normal, s') else some (.exit id', s')
    | r => r
  | .loop c, none, s => loopA (evalC call lim c none) lim s
  | .rangeFunc f ps a b, none, s =>
    match evalO s.σ f with
    | .fn g first captured =>
      match call (.f g) (first ++ [.yld (s.H.n + 1)] ++ captured) ((s.H.push .dfr).push (.loop .ready none g s.σ ps a b)) with
      | some (_, H) => match H.get (s.H.n + 1) with
        | some (.loop st pending _ _ _ _ _) =>
          if st = .busy then none else
          let s' : ASt := { s with H := H.set (s.H.n + 1) .dead, ds := .mark s.H.n :: s.ds }
          match pending with
          | none => some (.normal, s')
          | some .ret => some (.ret, s')
          | some (.exit id) => some (.exit id, s')
          | some _ => none
        | _ => none
      | none => none
    | _ => none
  | .exit id, none, s => some (.exit id, s)
  | .scope c, none, s => scopeA (hasL c) (evalC call lim c) lim none s
  | .label _, _, s => some (.normal, s)
  | .goto l, none, s => some (.goto l, s)
  | .ret, none, s => some (.ret, s)
  | .refuse, _, _ => none
  | _, some _, _ => none

def resultsA (H : AH) (σ : List AV) : List (Nat × Option (Option Nat)) → Option (List AV)
  | [] => some []
  | (t, none) :: r => (resultsA H σ r).map (σ.getD t .und :: ·)
  | (t, some n) :: r => match loadFrom H (σ.getD t .und) n, resultsA H σ r with
    | some v, some vs => some (v :: vs)
    | _, _ => none

def one : List AV → AV
  | [v] => v
  | vs => .tup vs

def leaveA (call : Caller) : List ADef → AH → Option AH
  | [], H => some H
  | .mark o :: ds, H => match H.get o with
    | some .dfr => leaveA call ds (H.set o .dead)
    | _ => none
  | .call g args :: ds, H => match call (.d g) args H with
    | some (_, H') => leaveA call ds H'
    | none => none

def callN (A : FuncId → Option AFunc) : Nat → Caller
  | 0, _, _, _ => none
  | n + 1, .f g, args, H =>
    match A g with
    | none => none
    | some fn =>
      match evalC (callN A n) n fn.body none { σ := args ++ List.replicate (fn.ntmps - args.length) .und, H, ds := [] } with
      | some (e, s) =>
        if e = .normal ∨ e = .ret then
          match leaveA (callN A n) s.ds s.H with
          | some H' => match resultsA H' s.σ fn.results with
            | some vs => if fn.fz then freeze 8 H' (one vs) else some (one vs, H')
            | none => none
          | none => none
        else none
      | none => none
  | n + 1, .d g, args, H =>
    match A g with
    | none => none
    | some fn =>
      match evalC (callN A n) n fn.body none { σ := args ++ List.replicate (fn.ntmps - args.length) .und, H, ds := [] } with
      | some (e, s) =>
        if e = .normal ∨ e = .ret then
          match s.ds, resultsA s.H s.σ fn.results with
          | [], some vs => some (one vs, s.H)
          | _, _ => none
        else none
      | none => none
  | n + 1, .y o, args, H =>
    match H.get o with
    | some (.loop .ready none _g σ ps a b) =>
      if args.length = ps.length then
        match evalC (callN A n) n a none { σ := (ps.zip args).foldl (fun σ (t, v) => σ.set t v) σ, H, ds := [] } with
        | some (.normal, s) =>
          match s.H.get o with
          | some (.loop .ready none g2 σ2 ps2 a2 b2) =>
            match evalC (callN A n) n b none { s with H := s.H.set o (.loop .busy none g2 σ2 ps2 a2 b2) } with
            | some (e, s') =>
              match s'.H.get o with
              | some (.loop _ _ g σ ps a b) =>
                match e with
                | .normal => some (.bool true, s'.H.set o (.loop .ready none g σ ps a b))
                | .ret => some (.bool false, s'.H.set o (.loop .done (some .ret) g σ ps a b))
                | .exit id => some (.bool false, s'.H.set o (.loop .done (some (.exit id)) g σ ps a b))
                | _ => none
              | _ => none
            | none => none
          | _ => none
        | _ => none
      else none
    | _ => none

end Go.Abs
