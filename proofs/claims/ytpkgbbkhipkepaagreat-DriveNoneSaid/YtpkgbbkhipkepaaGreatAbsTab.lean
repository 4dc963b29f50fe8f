/-
  A PROGRAM'S FUNCTIONS, LOOKED UP; CONTRACTS OF CALLEES; A CLOSED CALL, IN WHATEVER WORLD.
-/
import Derived.Test.YtpkgbbkhipkepaaGreatAbsCall
import Derived.Below
namespace Go.Abs
open Go.RowKit

variable {P : Program} {n0 : Fr P} {w0 : World} {G G0 : Gh} {H H' : AH} {w : World} {σ : List AV} {v : AV}

/-- A function, looked up. -/
def prepFn (P : Program) (ann : FuncId → Nat → Nat → Nat) (nofz : FuncId → Bool) (g : FuncId) : Option AFunc :=
  match P.funcs[g]? with
  | none => none
  | some f => match f.body with
    | none => none
    | some c => if f.name = "runtime.NumGoroutine" then none else match prepCode P (ann g) c, prepRes P f.results.toList with
      | some b, some r => some { ntmps := f.ntmps, results := r, body := b, fz := !nofz g }
      | _, _ => none

theorem tabOk (P : Program) (ann : FuncId → Nat → Nat → Nat) (nofz : FuncId → Bool) : TabOk P (prepFn P ann nofz) := by
  intro g x h
  unfold prepFn at h
  split at h
  · cases h
  rename_i f hf
  split at h
  · cases h
  rename_i c hc
  split at h
  · cases h
  rename_i hn
  split at h
  · rename_i b r hb hr
    cases h
    exact ⟨f, c, _, hf, hc, hn, hb, rfl, hr⟩
  · cases h

/-- One caller ahead of another. -/
def orElse (a b : Caller) : Caller := fun c as H =>
  match a c as H with
  | some r => some r
  | none => b c as H

theorem CallOk.orElse {a b : Caller} (ha : CallOk P a) (hb : CallOk P b) : CallOk P (orElse a b) := by
  refine ⟨fun {c as H H' v} h => ?_, fun {g as H H' v} h => ?_, fun {g as H H' v} h => ?_, fun {g as H H' v} h => ?_⟩
  all_goals
    unfold Go.Abs.orElse at h
    split at h
    · rename_i r hr
      cases h
      first
        | exact ha.ext hr
        | exact ha.fn hr
        | exact ha.dfn hr
        | exact ha.yld hr
    · first
        | exact hb.ext h
        | exact hb.fn h
        | exact hb.dfn h
        | exact hb.yld h

/-- The ghost of nothing. -/
def Gh.empty : Gh := { loc := fun _ _ => none, mp := fun _ => none, mem := fun _ _ => none, lt := fun _ => False, tk := fun _ => none }

/-- Whatever lies in the world is kept out. -/
def Fr.of (P : Program) (w : World) : Fr P := { K := fun b => b < w.heap.size, R := fun _ => False }

theorem AH.get_empty (o : Nat) : AH.empty.get o = none := rfl
theorem wf_empty : WF AH.empty := fun _ _ => rfl

theorem WRel.empty (P : Program) (w : World) : WRel (Fr.of P w) w Gh.empty AH.empty w :=
  ⟨Keeps.refl _ _, fun _ h => h, fun _ _ _ h => (by cases h), fun o x h => (by rw [AH.get_empty] at h; cases h), fun o _ x _ _ h => (by rw [AH.get_empty] at h; cases h), fun _ h => h.elim, fun _ _ => ⟨fun _ => ⟨rfl, rfl⟩, rfl, rfl⟩, fun _ h => h.elim, fun _ _ h => (by cases h)⟩

theorem below_of_keeps {w w' : World} (h : Keeps (Fr.of P w).K w w') : Below w.heap.size w w' := ⟨h.os, h.tape, h.output, h.size, fun k hk => h.block k hk⟩

/-- A call from nothing. -/
theorem closed_call {call : Caller} (hc : CallOk P call) {g : FuncId} {as : List AV} {us : List Value} (h : call (.f g) as AH.empty = some (v, H')) (hr : Reps Gh.empty as us) (w : World) :
    Calls P g us.toArray w fun e w' => ∃ u G, e = .returned u ∧ Rep G v u ∧ Below w.heap.size w w' := by
  have h1 := (hc.fn h (Fr.of P w) w Gh.empty w us 0 wf_empty (WRel.empty P w) hr).2
  refine (callsIn_wide.1 h1).mono ?_
  rintro e w' ⟨u, G, rfl, _, hW, hrep⟩
  exact ⟨u, G, rfl, hrep, below_of_keeps hW.below⟩

/-- It answers true. -/
def okTrue : Option (AV × AH) → Bool
  | some (.lit (.bool true), _) => true
  | _ => false

theorem okTrue_spec {x : Option (AV × AH)} (h : okTrue x = true) : ∃ H, x = some (.bool true, H) := by
  unfold okTrue at h
  split at h
  · exact ⟨_, rfl⟩
  · cases h

theorem rep_true {G : Gh} {u : Value} (h : Rep G (.bool true) u) : u = .bool true := by cases h; rfl

/-- What a closed call that answers true leaves behind: nothing. -/
def trueC (g : FuncId) : Caller := fun c as H =>
  match c, as with
  | .f g', [] => if g' = g then some (.bool true, H) else none
  | _, _ => none

/-- The world behind a call that turned nothing. -/
theorem WRel.grow (h : WRel n0 w0 G H w) {w' : World} (hw : Below w.heap.size w w') : WRel n0 w0 G H w' := by
  have hlt : ∀ b, b < w.heap.size → b < w'.heap.size := fun b hb => Nat.lt_of_lt_of_le hb hw.size
  refine ⟨h.below.trans (.of_below hw h.size), fun b hb => hlt b (h.size b hb), fun b k v hv => ?_, fun o x hx => ?_, h.sep, fun b hb => ⟨⟨(h.lt b hb).1.1, hlt b (h.lt b hb).1.2⟩, (h.lt b hb).2⟩, h.fresh, h.res, h.bare⟩
  · exact cell_kept hw (h.mem_lt hv) (h.mem _ _ _ hv)
  · exact (h.obj o x hx).mono (Gh.le.refl G) fun b hb => ⟨hw.block b (h.blk_lt hx hb).2, fun _ => rfl⟩

theorem callOk_true {call : Caller} (hc : CallOk P call) {g : FuncId} (h : okTrue (call (.f g) [] AH.empty) = true) : CallOk P (trueC g) := by
  obtain ⟨H0, h⟩ := okTrue_spec h
  have key : ∀ {c : ACal} {as : List AV} {H H' : AH} {v : AV}, trueC g c as H = some (v, H') → c = .f g ∧ as = [] ∧ v = .bool true ∧ H' = H := by
    intro c as H H' v h
    unfold trueC at h
    split at h
    · split at h
      · rename_i hg; cases h; exact ⟨by rw [hg], rfl, rfl, rfl⟩
      · cases h
    · cases h
  refine ⟨fun {c as H H' v} h1 hw => ?_, fun {g' as H H' v} h1 n0 w0 G w us n hwf hW hR => ?_, fun {g' as H H' v} h1 => ?_, fun {g' as H H' v} h1 => ?_⟩
  · obtain ⟨_, _, _, rfl⟩ := key h1; exact Ext.refl _
  · obtain ⟨e1, rfl, rfl, rfl⟩ := key h1
    cases e1
    have hus : us = [] := by have := hR.1; simp at this; exact List.eq_nil_of_length_eq_zero this.symm
    subst hus
    obtain ⟨h2, h3⟩ := hc.fn h (Fr.of P w) w Gh.empty w [] n wf_empty (WRel.empty P w) .nil
    refine ⟨h2, h3.mono ?_⟩
    rintro e w' ⟨u, G', rfl, _, hW', hrep⟩
    exact ⟨u, G, rfl, Gh.le.refl G, hW.grow (below_of_keeps hW'.below), by rw [rep_true hrep]; exact .lit rfl⟩
  · obtain ⟨e1, _⟩ := key h1; cases e1
  · obtain ⟨e1, _⟩ := key h1; cases e1

end Go.Abs
