/-
  THE EVALUATOR, made for the kernel.
-/
import Derived.Test.YtpkgbbkhipkepaaGreatAbsFastOps
namespace Go.Abs

/-! ### Temporaries -/
inductive Pa where
  | e
  | l (p : Pa)
  | r (p : Pa)

inductive En where
  | leaf
  | node (l : En) (v : AV) (r : En)

def toPaF : Nat → Nat → Pa
  | 0, _ => .e
  | n + 1, i => if i = 0 then .e else if i % 2 = 1 then .l (toPaF n (i / 2)) else .r (toPaF n (i / 2 - 1))
def toPa (i : Nat) : Pa := toPaF (i + 1) i

theorem toPaF_more : ∀ (n m i : Nat), i < n → i < m → toPaF n i = toPaF m i := by
  intro n
  induction n with
  | zero => intro m i h; omega
  | succ n ih =>
    intro m i h1 h2
    cases m with
    | zero => omega
    | succ m =>
      simp only [toPaF]
      split
      · rfl
      · split
        · rw [ih m _ (by omega) (by omega)]
        · rw [ih m _ (by omega) (by omega)]

theorem toPa_inj : ∀ (i j : Nat), toPa i = toPa j → i = j := by
  intro i
  induction i using Nat.strongRecOn with
  | _ i ih =>
    intro j h
    have step : ∀ i, toPa i = if i = 0 then .e else if i % 2 = 1 then .l (toPa (i / 2)) else .r (toPa (i / 2 - 1)) := by
      intro i
      by_cases h0 : i = 0
      · subst h0; rfl
      · show toPaF (i + 1) i = _
        simp only [toPaF, h0, if_false]
        split
        · rw [toPa, toPaF_more i (i / 2 + 1) _ (by omega) (by omega)]
        · rw [toPa, toPaF_more i (i / 2 - 1 + 1) _ (by omega) (by omega)]
    rw [step i, step j] at h
    by_cases hi : i = 0
    · rw [if_pos hi] at h
      by_cases hj : j = 0
      · omega
      · rw [if_neg hj] at h
        split at h <;> cases h
    · rw [if_neg hi] at h
      by_cases hj : j = 0
      · rw [if_pos hj] at h
        split at h <;> cases h
      · rw [if_neg hj] at h
        split at h
        · split at h
          · injection h with h
            have := ih _ (by omega) _ h
            omega
          · cases h
        · split at h
          · cases h
          · injection h with h
            have := ih _ (by omega) _ h
            omega

noncomputable def getP (p : Pa) : En → AV :=
  Pa.rec (motive := fun _ => En → AV) (fun E => En.rec (motive := fun _ => AV) .und (fun _ v _ _ _ => v) E)
    (fun _ ih E => En.rec (motive := fun _ => AV) .und (fun l _ _ _ _ => ih l) E) (fun _ ih E => En.rec (motive := fun _ => AV) .und (fun _ _ r _ _ => ih r) E) p
noncomputable def setP (p : Pa) : AV → En → En :=
  Pa.rec (motive := fun _ => AV → En → En) (fun v E => En.rec (motive := fun _ => En) (.node .leaf v .leaf) (fun l _ r _ _ => .node l v r) E)
    (fun _ ih v E => En.rec (motive := fun _ => En) (.node (ih v .leaf) .und .leaf) (fun l x r _ _ => .node (ih v l) x r) E)
    (fun _ ih v E => En.rec (motive := fun _ => En) (.node .leaf .und (ih v .leaf)) (fun l x r _ _ => .node l x (ih v r)) E) p

theorem getP_leaf (p : Pa) : getP p .leaf = .und := by cases p <;> rfl

theorem get_setP : ∀ (p q : Pa) (v : AV) (E : En), (p = q → getP q (setP p v E) = v) ∧ (p ≠ q → getP q (setP p v E) = getP q E) := by
  intro p
  induction p with
  | e =>
    intro q v E
    refine ⟨?_, fun hne => ?_⟩
    · rintro rfl; cases E <;> rfl
    · cases q with
      | e => exact absurd rfl hne
      | l q => cases E with
        | leaf => exact getP_leaf q
        | node l x r => rfl
      | r q => cases E with
        | leaf => exact getP_leaf q
        | node l x r => rfl
  | l p ih =>
    intro q v E
    refine ⟨?_, fun hne => ?_⟩
    · rintro rfl
      cases E with
      | leaf => exact (ih p v .leaf).1 rfl
      | node l x r => exact (ih p v l).1 rfl
    · cases q with
      | e => cases E <;> rfl
      | l q =>
        have hne' : p ≠ q := fun h => hne (by rw [h])
        cases E with
        | leaf => show getP q (setP p v .leaf) = .und; rw [(ih q v .leaf).2 hne', getP_leaf]
        | node l x r => exact (ih q v l).2 hne'
      | r q => cases E with
        | leaf => exact getP_leaf q
        | node l x r => rfl
  | r p ih =>
    intro q v E
    refine ⟨?_, fun hne => ?_⟩
    · rintro rfl
      cases E with
      | leaf => exact (ih p v .leaf).1 rfl
      | node l x r => exact (ih p v r).1 rfl
    · cases q with
      | e => cases E <;> rfl
      | r q =>
        have hne' : p ≠ q := fun h => hne (by rw [h])
        cases E with
        | leaf => show getP q (setP p v .leaf) = .und; rw [(ih q v .leaf).2 hne', getP_leaf]
        | node l x r => exact (ih q v r).2 hne'
      | l q => cases E with
        | leaf => exact getP_leaf q
        | node l x r => rfl

/-- The tree holds what the list holds. -/
structure RE (N : Nat) (σ : List AV) (E : En) : Prop where
  len : σ.length = N
  get : ∀ i, getP (toPa i) E = σ.getD i .und

theorem RE.set {N : Nat} {σ : List AV} {E : En} (h : RE N σ E) {d : Nat} (hd : d < N) (v : AV) : RE N (σ.set d v) (setP (toPa d) v E) := by
  refine ⟨by simp [h.len], fun i => ?_⟩
  by_cases he : d = i
  · subst he
    rw [(get_setP _ _ v E).1 rfl]
    simp [List.getD_eq_getElem?_getD, h.len, hd]
  · rw [(get_setP _ _ v E).2 (fun hp => he (toPa_inj _ _ hp)), h.get]
    simp [List.getD_eq_getElem?_getD, he]

/-! ### Code -/
inductive FO where
  | t (p : Pa)
  | c (v : AV)

def toFO : Operand → FO
  | .tmp t => .t (toPa t)
  | .const v => .c (.lit v)
  | .global _ => .c .und
  | .func f => .c (.fn f [] [])

noncomputable def evF (E : En) (x : FO) : AV := FO.rec (motive := fun _ => AV) (fun p => getP p E) (fun v => v) x

theorem evF_eq {N : Nat} {σ : List AV} {E : En} (h : RE N σ E) (x : Operand) : evF E (toFO x) = evalO σ x := by
  cases x with
  | tmp t => exact h.get t
  | const v => rfl
  | global g => rfl
  | func f => rfl

inductive FK where
  | op (o : AOpG FO)
  | call (f : FO) (args : List FO)
  | defer (f : FO) (args : List FO)

def toFK : AOp → FK
  | .call f args => .call (toFO f) (args.map toFO)
  | .defer f args => .defer (toFO f) (args.map toFO)
  | op => .op (op.toG toFO)

structure FOper where
  dst : Option Pa
  kind : FK
  guard : Option (Pa × Bool)
  idx : Nat
  back : Nat
  chain : Bool
  makes : Bool
  reads : List FO

def toFOper (o : AOper) : FOper :=
  { dst := o.dst.map toPa, kind := toFK o.op, guard := o.guard.map fun (t, b) => (toPa t, b), idx := o.idx, back := o.back, chain := o.op.chain, makes := o.op.makes, reads := o.op.reads.map toFO }

inductive FCode where
  | skip
  | region (good : Bool) (slots : Nat) (ops : List FOper) (draw : Bool)
  | seq (a b : FCode) (has : Nat → Bool)
  | cond (c : FO) (thn els : FCode)
  | block (id : Nat) (body : FCode)
  | loop (body : FCode)
  | rangeFunc (f : FO) (params : List Tmp) (assign body : ACode)
  | exit (id : Nat)
  | scope (body : FCode) (has : Nat → Bool)
  | label
  | goto (l : Nat)
  | ret
  | refuse

def goodOps (N : Nat) (ops : List AOper) : Bool := ops.all fun o => match o.dst with
  | none => true
  | some d => Nat.blt d N

def toF (N : Nat) : ACode → FCode
  | .skip => .skip
  | .region _ ops draw => .region (goodOps N ops) (slots ops) (ops.map toFOper) draw
  | .seq a b => .seq (toF N a) (toF N b) (hasL a)
  | .cond c a b => .cond (toFO c) (toF N a) (toF N b)
  | .block id c => .block id (toF N c)
  | .loop c => .loop (toF N c)
  | .rangeFunc f ps a b => .rangeFunc (toFO f) ps a b
  | .exit id => .exit id
  | .scope c => .scope (toF N c) (hasL c)
  | .label _ => .label
  | .goto l => .goto l
  | .ret => .ret
  | .refuse => .refuse

/-! ### The evaluator -/
inductive Rs where
  | fail
  | ok (e : AEx) (E : En) (H : AH) (ds : List ADef)

noncomputable def boolK {α : Type} (x : AV) (t f d : α) : α :=
  match x with
  | .lit v => match v with
    | .bool b => Bool.rec (motive := fun _ => α) f t b
    | _ => d
  | _ => d

noncomputable def wantK (E : En) (g : Option (Pa × Bool)) : Bool :=
  Option.rec (motive := fun _ => Bool) true (fun p => Prod.rec (motive := fun _ => Bool) (fun t b => boolK (getP t E) b (!b) false) p) g

noncomputable def putK (E : En) (dst : Option Pa) (v : AV) : En := Option.rec (motive := fun _ => En) E (fun d => setP d v E) dst

noncomputable def resolveK (E : En) (f : FO) (args : List FO) : Option (ACal × List AV) :=
  match evF E f with
  | .fn g first captured => some (.f g, first ++ args.map (evF E) ++ captured)
  | .yld o => some (.y o, args.map (evF E))
  | _ => none

abbrev Run := En → AH → List ADef → Rs

noncomputable def got (E : En) (ds : List ADef) (dst : Option Pa) (k : Run) (r : Option (AV × AH)) : Rs :=
  Option.rec (motive := fun _ => Rs) .fail (fun p => Prod.rec (motive := fun _ => Rs) (fun v H => k (putK E dst v) H ds) p) r

noncomputable def doOp (call : Caller) (dst : Option Pa) (k : Run) (kd : FK) : Run :=
  FK.rec (motive := fun _ => Caller → Option Pa → Run → Run)
    (fun o _ dst k E H ds => got E ds dst k (aopG o (evF E) H))
    (fun f args call dst k E H ds => Option.rec (motive := fun _ => Rs) .fail (fun p => Prod.rec (motive := fun _ => Rs) (fun c as => got E ds dst k (call c as H)) p) (resolveK E f args))
    (fun f args _ dst k E H ds => Option.rec (motive := fun _ => Rs) .fail (fun p => Prod.rec (motive := fun _ => Rs) (fun c as => ACal.rec (motive := fun _ => Rs) (fun g => k (putK E dst .und) H (.call g as :: ds)) (fun _ => .fail) (fun _ => .fail) c) p) (resolveK E f args))
    kd call dst k

noncomputable def stepK (call : Caller) (o : FOper) (k : Run) : Run := fun E H ds =>
  Bool.rec (motive := fun _ => Rs) (k (putK E o.dst .und) H ds) (doOp call o.dst k o.kind E H ds) (wantK E o.guard)

noncomputable def opsK (call : Caller) (ops : List FOper) : Run :=
  List.rec (motive := fun _ => Run) (fun E H ds => .ok .normal E H ds) (fun o _ ih => stepK call o ih) ops

noncomputable def backsK (o : FOper) (op : AOpG FO) (E : En) (v : AV) (hist : List AH) : Bool :=
  o.makes || (o.reads.all fun x => (named (evF E x)).isNone) || hist.all fun H => match aopG op (evF E) H with
    | some (u, _) => avBeq 64 v u
    | none => false

noncomputable def gotD (o : FOper) (op : AOpG FO) (E : En) (n : Nat) (hist : List AH) (ds : List ADef) (k : Run) (r : Option (AV × AH)) : Rs :=
  Option.rec (motive := fun _ => Rs) .fail (fun p => Prod.rec (motive := fun _ => Rs) (fun v H => Bool.rec (motive := fun _ => Rs) .fail (k (putK E o.dst v) ⟨n, H.t⟩ ds) (backsK o op E v (hist.take o.back))) p) r

noncomputable def silentK (base : Nat) (o : FOper) (hist : List AH) (k : Run) : Run := fun E H ds =>
  Bool.rec (motive := fun _ => Rs) (k (putK E o.dst .und) H ds)
    (Bool.rec (motive := fun _ => Rs)
      (FK.rec (motive := fun _ => Rs) (fun op => gotD o op E H.n hist ds k (aopG op (evF E) ⟨Nat.add base o.idx, H.t⟩)) (fun _ _ => .fail) (fun _ _ => .fail) o.kind)
      .fail (o.makes && Nat.ble H.n (Nat.add base o.idx)))
    (wantK E o.guard)

noncomputable def drawK (call : Caller) (base : Nat) (ops : List FOper) : List AH → Run :=
  List.rec (motive := fun _ => List AH → Run) (fun _ E H ds => .ok .normal E H ds)
    (fun o _ ih hist E H ds => Bool.rec (motive := fun _ => Rs) (silentK base o hist (ih hist) E H ds) (stepK call o (ih (H :: hist)) E H ds) o.chain) ops

noncomputable def seqK (b : Option Nat → Run) (r : Rs) : Rs :=
  Rs.rec (motive := fun _ => Rs) .fail (fun e E H ds => AEx.rec (motive := fun _ => Rs) (b none E H ds) (fun id => .ok (.exit id) E H ds) (fun l => .ok (.goto l) E H ds) (.ok .ret E H ds) e) r

noncomputable def blockK (id : Nat) (r : Rs) : Rs :=
  Rs.rec (motive := fun _ => Rs) .fail (fun e E H ds => AEx.rec (motive := fun _ => Rs) (.ok .normal E H ds) (fun id' => Bool.rec (motive := fun _ => Rs) (.ok (.exit id') E H ds) (.ok .normal E H ds) (Nat.beq id' id)) (fun l => .ok (.goto l) E H ds) (.ok .ret E H ds) e) r

noncomputable def loopNext (ih : Run) (r : Rs) : Rs :=
  Rs.rec (motive := fun _ => Rs) .fail (fun e E H ds => AEx.rec (motive := fun _ => Rs) (ih E H ds) (fun id => .ok (.exit id) E H ds) (fun l => .ok (.goto l) E H ds) (.ok .ret E H ds) e) r
noncomputable def loopK (body : Run) (n : Nat) : Run := Nat.rec (motive := fun _ => Run) (fun _ _ _ => .fail) (fun _ ih E H ds => loopNext ih (body E H ds)) n

noncomputable def scopeNext (has : Nat → Bool) (ih : Option Nat → Run) (r : Rs) : Rs :=
  Rs.rec (motive := fun _ => Rs) .fail (fun e E H ds => AEx.rec (motive := fun _ => Rs) (.ok .normal E H ds) (fun id => .ok (.exit id) E H ds) (fun l => Bool.rec (motive := fun _ => Rs) (.ok (.goto l) E H ds) (ih (some l) E H ds) (has l)) (.ok .ret E H ds) e) r
noncomputable def scopeK (has : Nat → Bool) (body : Option Nat → Run) (n : Nat) : Option Nat → Run :=
  Nat.rec (motive := fun _ => Option Nat → Run) (fun _ _ _ _ => .fail) (fun _ ih st E H ds => scopeNext has ih (body st E H ds)) n

def listE (N : Nat) (get : Nat → AV) : List AV := (List.range N).map get

/-- A range over a function. -/
noncomputable def rangeK (call : Caller) (N : Nat) (f : FO) (ps : List Tmp) (a b : ACode) : Run := fun E H ds =>
  match evF E f with
  | .fn g first captured =>
    match call (.f g) (first ++ [.yld (H.n + 1)] ++ captured) ((H.pushK .dfr).pushK (.loop .ready none g (listE N fun i => getP (toPa i) E) ps a b)) with
    | some (_, H') => match H'.getK (H.n + 1) with
      | some (.loop st pending _ _ _ _ _) =>
        if st = .busy then .fail else
        match pending with
        | none => .ok .normal E (H'.setK (H.n + 1) .dead) (.mark H.n :: ds)
        | some .ret => .ok .ret E (H'.setK (H.n + 1) .dead) (.mark H.n :: ds)
        | some (.exit id) => .ok (.exit id) E (H'.setK (H.n + 1) .dead) (.mark H.n :: ds)
        | some _ => .fail
      | _ => .fail
    | none => .fail
  | _ => .fail

noncomputable def resK : Nat → AH → AH
  | 0, H => H
  | n + 1, H => resK n (H.pushK .dead)

/-- Only without a label to start from. -/
noncomputable def noL (r : Run) (st : Option Nat) : Run := fun E H ds => Option.rec (motive := fun _ => Rs) (r E H ds) (fun _ => .fail) st

noncomputable def evK (call : Caller) (lim N : Nat) (c : FCode) : Option Nat → Run :=
  FCode.rec (motive := fun _ => Option Nat → Run)
    (noL fun E H ds => .ok .normal E H ds)
    (fun good sl ops draw => noL (Bool.rec (motive := fun _ => Run) (fun _ _ _ => .fail) (Bool.rec (motive := fun _ => Run) (opsK call ops) (fun E H ds => drawK call H.n ops [] E (resK sl H) ds) draw) good))
    (fun _ _ has ra rb st E H ds => Option.rec (motive := fun _ => Rs) (seqK rb (ra none E H ds)) (fun l => Bool.rec (motive := fun _ => Rs) (rb (some l) E H ds) (seqK rb (ra (some l) E H ds)) (has l)) st)
    (fun c _ _ ra rb => noL fun E H ds => boolK (evF E c) (ra none E H ds) (rb none E H ds) .fail)
    (fun id _ r => noL fun E H ds => blockK id (r none E H ds))
    (fun _ r => noL (loopK (r none) lim))
    (fun f ps a b => noL (rangeK call N f ps a b))
    (fun id => noL fun E H ds => .ok (.exit id) E H ds)
    (fun _ has r => noL (scopeK has r lim none))
    (fun _ E H ds => .ok .normal E H ds)
    (fun l => noL fun E H ds => .ok (.goto l) E H ds)
    (noL fun E H ds => .ok .ret E H ds)
    (fun _ _ _ _ => .fail)
    c

/-! ### Calls -/
noncomputable def setAll : List AV → Nat → En → En
  | [], _, E => E
  | v :: vs, i, E => setAll vs (i + 1) (setP (toPa i) v E)

noncomputable def resultsK (H : AH) (E : En) : List (Nat × Option (Option Nat)) → Option (List AV)
  | [] => some []
  | (t, none) :: r => (resultsK H E r).map (getP (toPa t) E :: ·)
  | (t, some n) :: r => match loadFromK H (getP (toPa t) E) n, resultsK H E r with
    | some v, some vs => some (v :: vs)
    | _, _ => none

noncomputable def leaveK (call : Caller) : List ADef → AH → Option AH
  | [], H => some H
  | .mark o :: ds, H => match H.getK o with
    | some .dfr => leaveK call ds (H.setK o .dead)
    | _ => none
  | .call g args :: ds, H => match call (.d g) args H with
    | some (_, H') => leaveK call ds H'
    | none => none

noncomputable def endK (call : Caller) (fn : AFunc) (r : Rs) : Option (AV × AH) :=
  match r with
  | .fail => none
  | .ok e E H ds =>
    if e = .normal ∨ e = .ret then
      match leaveK call ds H with
      | some H' => match resultsK H' E fn.results with
        | some vs => if fn.fz then freezeK 8 H' (one vs) else some (one vs, H')
        | none => none
      | none => none
    else none

noncomputable def endD (fn : AFunc) (r : Rs) : Option (AV × AH) :=
  match r with
  | .fail => none
  | .ok e E H ds =>
    if e = .normal ∨ e = .ret then
      match ds, resultsK H E fn.results with
      | [], some vs => some (one vs, H)
      | _, _ => none
    else none

noncomputable def enterK (call : Caller) (lim : Nat) (fn : AFunc) (args : List AV) (H : AH) : Rs :=
  if args.length ≤ fn.ntmps then evK call lim fn.ntmps (toF fn.ntmps fn.body) none (setAll args 0 .leaf) H [] else .fail

noncomputable def roundK (call : Caller) (lim : Nat) (o : Nat) (args : List AV) (H : AH) : Option (AV × AH) :=
  match H.getK o with
  | some (.loop .ready none _ σ ps a b) =>
    if args.length = ps.length then
      match evK call lim σ.length (toF σ.length a) none (setAll ((ps.zip args).foldl (fun σ (t, v) => σ.set t v) σ) 0 .leaf) H [] with
      | .ok .normal E H1 ds =>
        match H1.getK o with
        | some (.loop .ready none g2 σ2 ps2 a2 b2) =>
          match evK call lim σ.length (toF σ.length b) none E (H1.setK o (.loop .busy none g2 σ2 ps2 a2 b2)) ds with
          | .ok e _ H2 _ =>
            match H2.getK o with
            | some (.loop _ _ g σ ps a b) =>
              match e with
              | .normal => some (.bool true, H2.setK o (.loop .ready none g σ ps a b))
              | .ret => some (.bool false, H2.setK o (.loop .done (some .ret) g σ ps a b))
              | .exit id => some (.bool false, H2.setK o (.loop .done (some (.exit id)) g σ ps a b))
              | _ => none
            | _ => none
          | .fail => none
        | _ => none
      | _ => none
    else none
  | _ => none

noncomputable def callStep (A : FuncId → Option AFunc) (n : Nat) (call : Caller) : Caller := fun c args H =>
  ACal.rec (motive := fun _ => Option (AV × AH))
    (fun g => Option.rec (motive := fun _ => Option (AV × AH)) none (fun fn => endK call fn (enterK call n fn args H)) (A g))
    (fun o => roundK call n o args H)
    (fun g => Option.rec (motive := fun _ => Option (AV × AH)) none (fun fn => endD fn (enterK call n fn args H)) (A g)) c

noncomputable def callK (A : FuncId → Option AFunc) (n : Nat) : Caller :=
  Nat.rec (motive := fun _ => Caller) (fun _ _ _ => none) (fun n ih => callStep A n ih) n

end Go.Abs
