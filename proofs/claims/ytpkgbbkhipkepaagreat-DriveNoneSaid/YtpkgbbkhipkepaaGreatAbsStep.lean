/-
  ONE OPERATION OF A REGION, IN THE CALCULUS.
-/
import Derived.Test.YtpkgbbkhipkepaaGreatAbsExt
import Derived.Test.YtpkgbbkhipkepaaGreatAbsEval
import Derived.OrdersIn
import Derived.DefersIn
namespace Go.Abs
open Go.RowKit

variable {P : Program} {n0 : Fr P} {w0 : World} {G : Gh} {H H' : AH} {w : World} {σ : List AV} {v : AV}

/-- No fence; perhaps in a round of a range over a function. -/
def Wd (r : Option Nat) : Fence := { fn := fun _ => True, depth := none, alive := false, round := r }

theorem callsIn_wd {r : Option Nat} {n : Nat} {f : FuncId} {args : Array Value} {R : Ending → World → Prop} (h : CallsIn Fence.wide n P f args w R) : CallsIn (Wd r) n P f args w R := h

/-- A call has returned. -/
def RetOk (n0 : Fr P) (w0 : World) (G : Gh) (v : AV) (H' : AH) (e : Ending) (w' : World) : Prop := ∃ u G', e = .returned u ∧ G.le G' ∧ WRel n0 w0 G' H' w' ∧ Rep G' v u

structure CallOk (P : Program) (call : Caller) : Prop where
  ext : ∀ {c : ACal} {as : List AV} {H H' : AH} {v : AV}, call c as H = some (v, H') → WF H → Ext H H'
  fn : ∀ {g : FuncId} {as : List AV} {H H' : AH} {v : AV}, call (.f g) as H = some (v, H') → ∀ (n0 : Fr P) (w0 : World) (G : Gh) (w : World) (us : List Value) (n : Nat), WF H → WRel n0 w0 G H w → Reps G as us →
    (∃ fn : Func, P.funcs[g]? = some fn ∧ fn.body.isSome = true ∧ fn.name ≠ "runtime.NumGoroutine") ∧ CallsIn Fence.wide n P g us.toArray w (RetOk n0 w0 G v H')
  dfn : ∀ {g : FuncId} {as : List AV} {H H' : AH} {v : AV}, call (.d g) as H = some (v, H') → ∀ (n0 : Fr P) (w0 : World) (G : Gh) (w : World) (us : List Value) (n : Nat) (u : FrameMode), WF H → WRel n0 w0 G H w → Reps G as us →
    (∃ fn : Func, P.funcs[g]? = some fn ∧ fn.body.isSome = true ∧ fn.name ≠ "runtime.NumGoroutine") ∧ CallsDIn Fence.wide n P g us.toArray u w fun e u' w' => u' = u ∧ RetOk n0 w0 G v H' e w'
  yld : ∀ {o : Nat} {as : List AV} {H H' : AH} {v : AV}, call (.y o) as H = some (v, H') → ∀ (n0 : Fr P) (w0 : World) (G : Gh) (w : World) (us : List Value) (n r : Nat), WF H → WRel n0 w0 G H w → Reps G as us → G.mp o = some r →
    ∃ f tmps assign body w1, (Instr.yield r us.toArray).run P w = .ok (.round r f tmps assign body) w1 ∧ RoundIn Fence.wide n P r f tmps assign body w1 (RetOk n0 w0 G v H')

/-- The temporaries. -/
theorem eval_rep {a : Act} (hT : Reps G σ a.tmps.toList) {x : Operand} (hx : okO x = true) : Rep G (evalO σ x) (a.eval x) := by
  cases x with
  | tmp t =>
    have := hT.getD t (d := .und) (d' := undef) rep_und
    simpa [evalO, Act.eval, List.getD_eq_getElem?_getD] using this
  | const c => exact .lit hx
  | global g => cases hx
  | func f => exact .fn (as := []) (bs := []) (us := []) (vs := []) rfl rfl (fun _ h => absurd h (Nat.not_lt_zero _)) (fun _ h => absurd h (Nat.not_lt_zero _))

theorem prepOp_ok {o : Oper} {ann : Nat} {ao : AOp} (hp : prepOp P ann o = some ao) : ∀ x ∈ o.op.operands.toList, okO x = true := by
  unfold prepOp at hp
  split at hp
  · exact all_ok (by assumption)
  · cases hp

theorem prepOp_in {o : Oper} {ann : Nat} {ao : AOp} (hp : prepOp P ann o = some ao) : prepIn P ann o.op = some ao := by
  unfold prepOp at hp
  split at hp
  · exact hp
  · cases hp

/-- An operation that makes no call and defers none. -/
theorem op_plain (hext : ExtOk P) {r : Option Nat} {n : Nat} {o : Oper} {ann : Nat} {ao : AOp} {a : Act} {K : Act → World → Prop} {Q : Exit → Act → World → Prop} (hp : prepOp P ann o = some ao)
    (hE : ∀ x ∈ o.op.operands.toList, Rep G (evalO σ x) (a.eval x)) (hW : WRel n0 w0 G H w) (hF : Free n0 G H) (hN : ao.chain = true → H.get H.n = none) (h : aop σ H ao = some (v, H'))
    (hK : ∀ u w' G', G.le G' → WRel n0 w0 G' H' w' → Rep G' v u → K (a.put o.dst u) w') : o.wpIn (Wd r) n P a w K Q := by
  have hnd : ∀ c, o.op ≠ .defer c := by
    rintro c hc
    have := prepOp_in hp
    rw [hc] at this
    obtain ⟨callee, args, ts⟩ := c
    cases callee <;> simp only [prepIn] at this <;> cases this
    cases h
  refine ⟨fun _ _ => trivial, ?_⟩
  rw [Oper.semAt_eq _ _ _ hnd]
  obtain ⟨u, w', G', hd, h1, h2, h3⟩ := sim_op hext hp hE hW hF hN h
  rcases hd with hd | ⟨hd, rfl⟩
  · rw [hd]; exact hK u w' G' h1 h2 h3
  · rw [hd]; exact hK undef w' G' h1 h2 h3

theorem prepBuiltin_call {ann : Nat} (b : Builtin) (as : Array Operand) (ts : Array TypeId) (f : Operand) (args : List Operand) : prepBuiltin P ann b as ts ≠ some (.call f args) := by
  intro h
  unfold prepBuiltin at h
  repeat' split at h
  all_goals first
    | (cases h; done)
    | (simp only [opt] at h; split at h <;> cases h; done)
    | (simp [Option.map_eq_some_iff] at h; done)

theorem prepIn_call {ann : Nat} {op : Op} (hop : ∀ c, op ≠ .call c) (f : Operand) (args : List Operand) : prepIn P ann op ≠ some (.call f args) := by
  intro h
  cases op
  case call c => exact hop c rfl
  case makeFunc fn a b => cases fn <;> simp [prepIn] at h
  case next it b => cases b <;> simp [prepIn] at h
  case makeMap t r =>
    cases r <;> simp only [prepIn] at h
    · split at h <;> cases h
    · cases h
  case defer c =>
    obtain ⟨callee, as, ts⟩ := c
    cases callee <;> simp [prepIn] at h
  all_goals simp only [prepIn] at h
  all_goals repeat' split at h
  all_goals first
    | (cases h; done)
    | (simp only [opt] at h; split at h <;> cases h; done)
    | (simp [Option.map_eq_some_iff] at h; done)
    | skip

/-- What is looked up as a call is a call of a value. -/
theorem prep_call {o : Oper} {ann : Nat} {f : Operand} {args : List Operand} (hp : prepOp P ann o = some (.call f args)) : ∃ ts, o.op = .call { callee := .value f, args := args.toArray, argTypes := ts } := by
  have hp := prepOp_in hp
  cases hop : o.op with
  | call c =>
    rw [hop] at hp
    obtain ⟨callee, as, ts⟩ := c
    cases callee with
    | builtin b =>
      simp only [prepIn] at hp
      exact absurd hp (prepBuiltin_call _ _ _ _ _)
    | invoke => simp [prepIn] at hp
    | value g =>
      refine ⟨ts, ?_⟩
      cases g with
      | func k =>
        simp only [prepIn] at hp
        split at hp
        · split at hp
          · split at hp
            · cases hp; simp
            · cases hp
          · split at hp
            · split at hp <;> cases hp
            · cases hp
        · cases hp
      | tmp t => simp only [prepIn] at hp; cases hp; simp
      | const t => simp only [prepIn] at hp; cases hp; simp
      | global t => simp only [prepIn] at hp; cases hp; simp
  | _ => rw [hop] at hp; exact absurd hp (prepIn_call (by rintro c ⟨⟩) _ _)

theorem reps_map {a : Act} {xs : List Operand} (hE : ∀ x ∈ xs, Rep G (evalO σ x) (a.eval x)) : Reps G (xs.map (evalO σ)) (xs.map a.eval) := by
  induction xs with
  | nil => exact Reps.nil
  | cons x xs ih => exact Reps.cons (hE x (by simp)) (ih fun y hy => hE y (List.mem_cons_of_mem _ hy))

theorem run_callFunc_enter {g : FuncId} {fn : Func} (h1 : P.funcs[g]? = some fn) (h2 : fn.body.isSome = true) (h3 : fn.name ≠ "runtime.NumGoroutine") (args : Array Value) : (callFunc g args).run P w = .ok (.enter g args) w := by
  have hb : fn.body ≠ none := by intro e; rw [e] at h2; cases h2
  simp [callFunc, h1, h3, hb]

/-- A call. -/
theorem op_call {call : Caller} (hcall : CallOk P call) {r : Option Nat} {n : Nat} {o : Oper} {ts : Array TypeId} {f : Operand} {args : List Operand} {a : Act} {K : Act → World → Prop} {Q : Exit → Act → World → Prop}
    (ho : o.op = .call { callee := .value f, args := args.toArray, argTypes := ts }) (hE : ∀ x ∈ o.op.operands.toList, Rep G (evalO σ x) (a.eval x)) (hW : WRel n0 w0 G H w) (hwf : WF H)
    {c : ACal} {as : List AV} (hr : resolveA σ f args = some (c, as)) (h : call c as H = some (v, H'))
    (hK : ∀ u w' G', G.le G' → WRel n0 w0 G' H' w' → Rep G' v u → K (a.put o.dst u) w') : o.wpIn (Wd r) n P a w K Q := by
  have hf : Rep G (evalO σ f) (a.eval f) := hE f (by rw [ho]; simp [Op.operands, Call.operands])
  have hargs : Reps G (args.map (evalO σ)) (args.map a.eval) := reps_map fun x hx => hE x (by rw [ho]; simp [Op.operands, Call.operands, hx])
  refine ⟨fun _ _ => trivial, ?_⟩
  rw [Oper.semAt_eq _ _ _ (by rw [ho]; simp)]
  have hexec : execOp a.eval o = (do let d ← resolve a.eval { callee := .value f, args := args.toArray, argTypes := ts } o.type; invoke d.target d.args) := by
    unfold execOp
    simp only [ho]
  rw [hexec]
  unfold resolveA at hr
  split at hr
  · rename_i g first captured he
    cases hr
    rw [he] at hf
    generalize hv : a.eval f = vf at hf
    cases hf with
    | fn h1 h2 h3 h4 =>
      rename_i us vs
      have hall : Reps G (first ++ args.map (evalO σ) ++ captured) (us ++ args.map a.eval ++ vs) := (Reps.append ⟨h1, h3⟩ hargs).append ⟨h2, h4⟩
      obtain ⟨⟨fn, e1, e2, e3⟩, hc⟩ := hcall.fn h n0 w0 G w _ (n - 1) hwf hW hall
      have hrun : (do let d ← resolve a.eval { callee := .value f, args := args.toArray, argTypes := ts } o.type; invoke d.target d.args : Sem Next).run P w = .ok (.enter g (us ++ args.map a.eval ++ vs).toArray) w := by
        have hr2 : (do let d ← resolve a.eval { callee := .value f, args := args.toArray, argTypes := ts } o.type; invoke d.target d.args : Sem Next) = callFunc g (us ++ args.map a.eval ++ vs).toArray := by
          simp [resolve, hv, Deferred.ofValue, invoke]
        rw [hr2]
        exact run_callFunc_enter e1 e2 e3 _
      rw [hrun]
      refine ⟨(fun h => by cases h), CallsIn.mono (callsIn_wd hc) ?_⟩
      rintro e w' ⟨u, G', rfl, g1, g2, g3⟩
      exact hK u w' G' g1 g2 g3
  · rename_i o' he
    cases hr
    rw [he] at hf
    generalize hv : a.eval f = vf at hf
    cases hf with
    | yld hm =>
      rename_i l
      obtain ⟨f', tmps, assign, body, w1, y1, y2⟩ := hcall.yld h n0 w0 G w _ (n - 1) l hwf hW hargs hm
      have hrun : (do let d ← resolve a.eval { callee := .value f, args := args.toArray, argTypes := ts } o.type; invoke d.target d.args : Sem Next).run P w = .ok (.round l f' tmps assign body) w1 := by
        rw [← y1]
        simp [resolve, hv, Deferred.ofValue, invoke]
      rw [hrun]
      refine ⟨(fun h => by cases h), RoundIn.mono y2 ?_⟩
      rintro e w' ⟨u, G', rfl, g1, g2, g3⟩
      exact hK u w' G' g1 g2 g3
  · cases hr

end Go.Abs
