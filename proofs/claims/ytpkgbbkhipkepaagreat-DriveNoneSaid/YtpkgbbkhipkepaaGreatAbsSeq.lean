/-
  A REGION THAT DRAWS NO ORDER.
-/
import Derived.Test.YtpkgbbkhipkepaaGreatAbsStep
namespace Go.Abs
open Go.RowKit

variable {P : Program} {n0 : Fr P} {w0 : World} {G G0 : Gh} {H H' : AH} {w : World} {σ : List AV} {v : AV}

/-- A deferred call stands for one of the machine's. -/
def DefOk (G : Gh) : ADef → Deferred → Prop
  | .call g as, d => ∃ us vs : List Value, d = { target := .fn (.func g) vs.toArray, args := us.toArray } ∧ Reps G as (us ++ vs)
  | .mark o, d => ∃ r, G.mp o = some r ∧ d.target = .collected r

inductive DefsOk (G : Gh) : List ADef → List Deferred → Prop where
  | nil : DefsOk G [] []
  | cons {x : ADef} {d : Deferred} {xs : List ADef} {ds : List Deferred} : DefOk G x d → DefsOk G xs ds → DefsOk G (x :: xs) (d :: ds)

theorem DefOk.mono {G' : Gh} (hG : G.le G') {x : ADef} {d : Deferred} (h : DefOk G x d) : DefOk G' x d := by
  cases x with
  | call g as => obtain ⟨us, vs, h1, h2⟩ := h; exact ⟨us, vs, h1, h2.mono hG⟩
  | mark o => obtain ⟨r, h1, h2⟩ := h; exact ⟨r, hG.mp _ _ h1, h2⟩
theorem DefsOk.mono {G' : Gh} (hG : G.le G') {xs : List ADef} {ds : List Deferred} (h : DefsOk G xs ds) : DefsOk G' xs ds := by
  induction h with
  | nil => exact .nil
  | cons h1 _ ih => exact .cons (h1.mono hG) ih

/-- An abstract state stands for an activation's state in a world. -/
def StOk (n0 : Fr P) (w0 : World) (G0 : Gh) (s : ASt) (a : Act) (w : World) : Prop :=
  ∃ G, G0.le G ∧ WRel n0 w0 G s.H w ∧ Reps G s.σ a.tmps.toList ∧ DefsOk G s.ds a.defers ∧ WF s.H

theorem reps_put {a : Act} {u : Value} (hT : Reps G σ a.tmps.toList) (hv : Rep G v u) (dst : Option Tmp) : Reps G (put σ dst v) (a.put dst u).tmps.toList := by
  cases dst with
  | none => exact hT
  | some d =>
    have := hT.set d hv
    simpa [put, Act.put] using this

theorem put_defers (a : Act) (dst : Option Tmp) (u : Value) : (a.put dst u).defers = a.defers := by cases dst <;> rfl

/-- How an operation was looked up. -/
structure Looked (P : Program) (ops : Array Oper) (i : Nat) (ao : AOper) (o : Oper) : Prop where
  at_ : ops[i]? = some o
  dst : ao.dst = o.dst
  op : ∃ ann, prepOp P ann o = some ao.op
  guard : prepGuard ops o.guard = some ao.guard
  idx : ao.idx = i

theorem wanted_eq {ops : Array Oper} {o : Oper} {g : Option (Tmp × Bool)} {a : Act} (hg : prepGuard ops o.guard = some g) (hT : ∀ t b, g = some (t, b) → Rep G (σ.getD t .und) (a.tmps.getD t undef)) :
    Region.wanted o (yielded ops a.tmps) = wanted σ g := by
  unfold prepGuard at hg
  cases hog : o.guard with
  | none =>
    rw [hog] at hg
    cases hg
    simp [Region.wanted, hog, wanted]
  | some p =>
    obtain ⟨j, b⟩ := p
    rw [hog] at hg
    simp only at hg
    split at hg
    · rename_i t htj
      cases hg
      have hr := hT t b rfl
      simp only [Region.wanted, hog, wanted]
      generalize hx : σ.getD t .und = x at hr
      have hsome : ∀ c, a.tmps[t]? = some (.bool c) ↔ a.tmps.getD t undef = .bool c := by
        intro c
        simp only [Array.getD_eq_getD_getElem?]
        cases hh : a.tmps[t]? with
        | none => simp [undef]
        | some y => simp
      generalize hy : a.tmps.getD t undef = y at hr hsome
      have hnone : (∀ c, y ≠ .bool c) → yielded ops a.tmps j = none := by
        intro hne
        unfold yielded
        rw [htj, Option.bind_some]
        split
        · rename_i c hc; exact absurd ((hsome c).1 hc) (hne c)
        · rfl
      have hyes : ∀ c, y = .bool c → yielded ops a.tmps j = some c := by
        intro c hc
        unfold yielded
        rw [htj, Option.bind_some, (hsome c).2 hc]
      cases hr with
      | lit hcl =>
        cases y with
        | bool c => rw [hyes c rfl]; simp
        | _ => rw [hnone (by simp)]; simp
      | _ => rw [hnone (by simp)]; simp
    · cases hg

theorem prepBuiltin_defer {ann : Nat} (b : Builtin) (as : Array Operand) (ts : Array TypeId) (f : Operand) (args : List Operand) : prepBuiltin P ann b as ts ≠ some (.defer f args) := by
  intro h
  unfold prepBuiltin at h
  repeat' split at h
  all_goals first
    | (cases h; done)
    | (simp only [opt] at h; split at h <;> cases h; done)
    | (simp [Option.map_eq_some_iff] at h; done)

theorem prep_defer {o : Oper} {ann : Nat} {f : Operand} {args : List Operand} (hp : prepOp P ann o = some (.defer f args)) : ∃ ts, o.op = .defer { callee := .value f, args := args.toArray, argTypes := ts } := by
  have h := prepOp_in hp
  cases hop : o.op <;> rw [hop] at h
  case defer c =>
    obtain ⟨callee, as, ts⟩ := c
    cases callee with
    | value g => simp only [prepIn] at h; cases h; exact ⟨ts, by simp⟩
    | _ => simp [prepIn] at h
  case call c =>
    obtain ⟨callee, as, ts⟩ := c
    cases callee with
    | builtin b => simp only [prepIn] at h; exact absurd h (prepBuiltin_defer _ _ _ _ _)
    | invoke => simp [prepIn] at h
    | value g =>
      cases g with
      | func k =>
        simp only [prepIn] at h
        repeat' split at h
        all_goals cases h
      | _ => simp [prepIn] at h
  case makeFunc fn a b => cases fn <;> simp [prepIn] at h
  case next it b => cases b <;> simp [prepIn] at h
  case makeMap t r =>
    cases r <;> simp only [prepIn] at h
    · split at h <;> cases h
    · cases h
  all_goals simp only [prepIn] at h
  all_goals repeat' split at h
  all_goals first
    | (cases h; done)
    | (simp only [opt] at h; split at h <;> cases h; done)
    | (simp [Option.map_eq_some_iff] at h; done)

/-- One operation, where its operands and its guard are seen. -/
theorem step_core (hext : ExtOk P) {call : Caller} (hcall : CallOk P call) {r : Option Nat} {n : Nat} {ops : Array Oper} {i : Nat} {ao : AOper} {o : Oper} {Q : Exit → Act → World → Prop} (hl : Looked P ops i ao o) (hr : r = none ∨ ∀ f as, ao.op ≠ .defer f as)
    {s s' : ASt} {a : Act} (hW : WRel n0 w0 G s.H w) (hE : ∀ x ∈ o.op.operands.toList, Rep G (evalO s.σ x) (a.eval x)) (hwant : Region.wanted o (yielded ops a.tmps) = wanted s.σ ao.guard) (hD : DefsOk G s.ds a.defers) (hwf : WF s.H) (h : evalOp call ao s = some s') :
    wpOpIn (Wd r) n P ops Q i (fun a' w' => ∃ G' v u, G.le G' ∧ WRel n0 w0 G' s'.H w' ∧ Rep G' v u ∧ s'.σ = put s.σ ao.dst v ∧ a'.tmps = (a.put ao.dst u).tmps ∧ DefsOk G' s'.ds a'.defers ∧ WF s'.H) a w := by
  obtain ⟨ann, hp⟩ := hl.op
  unfold wpOpIn
  rw [hl.at_]
  simp only [hwant]
  unfold evalOp at h
  split at h
  · rename_i hw
    rw [if_pos hw]
    have fin : ∀ {v : AV} {H' : AH} {u : Value} {w' : World} {G' : Gh}, Ext s.H H' → G.le G' → WRel n0 w0 G' H' w' → Rep G' v u →
        ∃ G'' v' u', G.le G'' ∧ WRel n0 w0 G'' H' w' ∧ Rep G'' v' u' ∧ put s.σ ao.dst v = put s.σ ao.dst v' ∧ (a.put o.dst u).tmps = (a.put ao.dst u').tmps ∧ DefsOk G'' s.ds (a.put o.dst u).defers ∧ WF H' := by
      intro v H' u w' G' hx h1 h2 h3
      refine ⟨G', v, u, h1, h2, h3, rfl, by rw [hl.dst], ?_, hx.wf hwf⟩
      rw [put_defers]; exact hD.mono h1
    split at h
    · -- a call
      rename_i f args hop
      rw [hop] at hp
      obtain ⟨ts, ho⟩ := prep_call hp
      split at h
      · rename_i c as hres
        split at h
        · rename_i v H' hc
          cases h
          exact op_call hcall ho hE hW hwf hres hc (fun u w' G' h1 h2 h3 => fin (hcall.ext hc hwf) h1 h2 h3)
        · cases h
      · cases h
    · -- a deferred call
      rename_i f args hop
      have hrn : r = none := hr.resolve_right (fun hne => hne f args hop)
      subst hrn
      rw [hop] at hp
      obtain ⟨ts, ho⟩ := prep_defer hp
      split at h
      · rename_i g as hres
        cases h
        have hf : Rep G (evalO s.σ f) (a.eval f) := hE f (by rw [ho]; simp [Op.operands, Call.operands])
        have hargs : Reps G (args.map (evalO s.σ)) (args.map a.eval) := reps_map fun x hx => hE x (by rw [ho]; simp [Op.operands, Call.operands, hx])
        refine ⟨fun _ _ => trivial, ?_⟩
        rw [show (Wd none).round = none from rfl, Oper.semAt_none]
        have hexec : execOp a.eval o = (do pure (.defer (← resolve a.eval { callee := .value f, args := args.toArray, argTypes := ts } o.type)) : Sem Next) := by
          unfold execOp
          simp only [ho]
        rw [hexec]
        unfold resolveA at hres
        split at hres
        · rename_i g' first captured he
          cases hres
          rw [he] at hf
          generalize hv : a.eval f = vf at hf
          cases hf with
          | fn h1 h2 h3 h4 =>
            rename_i us vs
            have hall : Reps G (first ++ args.map (evalO s.σ) ++ captured) ((us ++ args.map a.eval) ++ vs) := (Reps.append ⟨h1, h3⟩ hargs).append ⟨h2, h4⟩
            have hrun : (do pure (.defer (← resolve a.eval { callee := .value f, args := args.toArray, argTypes := ts } o.type)) : Sem Next).run P w = .ok (.defer { target := .fn (.func g) vs.toArray, args := (us ++ args.map a.eval).toArray }) w := by
              simp [resolve, hv, Deferred.ofValue]
            rw [hrun]
            refine ⟨G, .und, undef, Gh.le.refl G, hW, rep_und, rfl, ?_, ?_, hwf⟩
            · rw [hl.dst]; cases o.dst <;> rfl
            · rw [put_defers]
              exact .cons ⟨_, _, rfl, hall⟩ hD
        · cases hres
        · cases hres
      · cases h
    · -- any other
      rename_i op hnc hnd
      split at h
      · rename_i v H' ha
        cases h
        exact op_plain hext hp hE hW (hW.free hwf.next) (fun _ => hwf.next) ha (fun u w' G' h1 h2 h3 => fin (aop_ext hwf.next ha) h1 h2 h3)
      · cases h
  · rename_i hw
    cases h
    rw [if_neg hw]
    refine ⟨fun _ _ => trivial, G, .und, undef, Gh.le.refl G, hW, rep_und, rfl, by rw [hl.dst], ?_, hwf⟩
    rw [put_defers]; exact hD

/-- One operation, in the order of the text. -/
theorem step_ok (hext : ExtOk P) {call : Caller} (hcall : CallOk P call) {r : Option Nat} {n : Nat} {ops : Array Oper} {i : Nat} {ao : AOper} {o : Oper} {Q : Exit → Act → World → Prop} (hl : Looked P ops i ao o) (hr : r = none ∨ ∀ f as, ao.op ≠ .defer f as)
    {s s' : ASt} {a : Act} (hs : StOk n0 w0 G0 s a w) (h : evalOp call ao s = some s') : wpOpIn (Wd r) n P ops Q i (StOk n0 w0 G0 s') a w := by
  obtain ⟨G, h0, hW, hT, hD, hwf⟩ := hs
  obtain ⟨ann, hp⟩ := hl.op
  have hE : ∀ x ∈ o.op.operands.toList, Rep G (evalO s.σ x) (a.eval x) := fun x hx => eval_rep hT (prepOp_ok hp x hx)
  have hwant : Region.wanted o (yielded ops a.tmps) = wanted s.σ ao.guard := wanted_eq hl.guard (fun t b _ => by
    have := hT.getD t (d := .und) (d' := undef) rep_und
    simpa [List.getD_eq_getElem?_getD, Array.getD_eq_getD_getElem?] using this)
  refine wpOpIn_mono (fun a' w' => ?_) (step_core hext hcall hl hr hW hE hwant hD hwf h)
  rintro ⟨G', v, u, h1, h2, h3, h4, h5, h6, h7⟩
  refine ⟨G', h0.trans h1, h2, ?_, h6, h7⟩
  rw [h4, h5]
  exact reps_put (hT.mono h1) h3 _

theorem prepOps_looked {ann : Nat → Nat} {ops : Array Oper} : ∀ (l : List Oper) (k : Nat) (al : List AOper), prepOps P ann ops l k = some al → (∀ (j : Nat) (o : Oper), l[j]? = some o → ops[k + j]? = some o) →
    al.length = l.length ∧ ∀ (j : Nat) (ao : AOper), al[j]? = some ao → ∃ o, Looked P ops (k + j) ao o := by
  intro l
  induction l with
  | nil => intro k al h _; cases h; exact ⟨rfl, fun j ao h => by simp at h⟩
  | cons o l ih =>
    intro k al h hat
    simp only [prepOps] at h
    split at h
    · rename_i x g r hx hg hr
      cases h
      obtain ⟨h1, h2⟩ := ih (k + 1) r hr (fun j o' hj => by
        have := hat (j + 1) o' (by simpa using hj)
        rw [← this]; congr 1; omega)
      refine ⟨by simp [h1], fun j ao hj => ?_⟩
      cases j with
      | zero =>
        simp at hj
        subst hj
        exact ⟨o, hat 0 o (by simp), rfl, ⟨_, hx⟩, hg, rfl⟩
      | succ j =>
        obtain ⟨o', h3⟩ := h2 j ao (by simpa using hj)
        refine ⟨o', ?_⟩
        have : k + 1 + j = k + (j + 1) := by omega
        rw [this] at h3
        exact h3
    · cases h

theorem seq_ok (hext : ExtOk P) {call : Caller} (hcall : CallOk P call) {r : Option Nat} {n : Nat} {ops : Array Oper} {Q : Exit → Act → World → Prop} : ∀ (l : List AOper) (k : Nat) (s s' : ASt) (a : Act) (w : World),
    (∀ (j : Nat) (ao : AOper), l[j]? = some ao → ∃ o, Looked P ops (k + j) ao o) → (r = none ∨ ∀ ao ∈ l, ∀ f as, ao.op ≠ .defer f as) → StOk n0 w0 G0 s a w → evalOps call l s = some s' → (∀ a w, StOk n0 w0 G0 s' a w → Q .normal a w) →
    wpOpsIn (Wd r) n P ops Q (List.range' k l.length) a w := by
  intro l
  induction l with
  | nil =>
    intro k s s' a w _ _ hs h hQ
    cases h
    exact hQ a w hs
  | cons ao l ih =>
    intro k s s' a w hl hr hs h hQ
    simp only [evalOps] at h
    split at h
    · rename_i s1 h1
      obtain ⟨o, ho⟩ := hl 0 ao (by simp)
      simp only [List.length_cons, List.range'_succ]
      rw [wpOpsIn_cons]
      refine wpOpIn_mono (fun a' w' hs' => ?_) (step_ok hext hcall ho (hr.imp id fun hr => hr ao (by simp)) hs h1)
      exact ih (k + 1) s1 s' a' w' (fun j ao' hj => by
        obtain ⟨o', h3⟩ := hl (j + 1) ao' (by simpa using hj)
        refine ⟨o', ?_⟩
        have : k + (j + 1) = k + 1 + j := by omega
        rw [this] at h3
        exact h3) (hr.imp id fun hr ao' h' => hr ao' (List.mem_cons_of_mem _ h')) hs' h hQ
    · cases h

/-- A region that draws no order. -/
theorem region_seq (hext : ExtOk P) {call : Caller} (hcall : CallOk P call) {r : Option Nat} {n : Nat} {id : Nat} {ops : Array Oper} {ann : Nat → Nat} {l : List AOper} {Q : Exit → Act → World → Prop} (hp : prepOps P ann ops ops.toList 0 = some l)
    (hr : r = none ∨ ∀ ao ∈ l, ∀ f as, ao.op ≠ .defer f as) {s s' : ASt} {a : Act} (hs : StOk n0 w0 G0 s a w) (h : evalOps call l s = some s') (hQ : ∀ a w, StOk n0 w0 G0 s' a w → Q .normal a w) :
    (Code.region id ops false).wpIn (Wd r) n P Q a w := by
  obtain ⟨h1, h2⟩ := prepOps_looked ops.toList 0 l hp (fun j o hj => by simpa using hj)
  refine wpIn_region ?_
  rw [List.range_eq_range', show ops.size = l.length by simp [h1]]
  exact seq_ok hext hcall l 0 s s' a w h2 hr hs h hQ

end Go.Abs
