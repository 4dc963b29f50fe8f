/-
  NUMBERS THAT ARE NOT YET TAKEN STAY FREE; WHAT IS DEAD STAYS DEAD.
-/
import Derived.Test.YtpkgbbkhipkepaaGreatAbsLoc
namespace Go.Abs
open Go.RowKit

variable {G : Gh} {H H' H1 H2 : AH} {σ : List AV} {v : AV}

def WF (H : AH) : Prop := ∀ o, H.n ≤ o → H.get o = none

structure Ext (H H' : AH) : Prop where
  n : H.n ≤ H'.n
  none : ∀ o, H'.n ≤ o → H.get o = none → H'.get o = none
  dead : ∀ o, H.get o = some .dead → H'.get o = some .dead

theorem Ext.refl (H : AH) : Ext H H := ⟨Nat.le_refl _, fun _ _ h => h, fun _ h => h⟩
theorem Ext.trans {A B C : AH} (h : Ext A B) (k : Ext B C) : Ext A C :=
  ⟨Nat.le_trans h.n k.n, fun o ho e => k.none o ho (h.none o (Nat.le_trans k.n ho) e), fun o e => k.dead o (h.dead o e)⟩
theorem Ext.wf (h : Ext H H') (hw : WF H) : WF H' := fun o ho => h.none o ho (hw o (Nat.le_trans h.n ho))
theorem WF.next (hw : WF H) : H.get H.n = Option.none := hw _ (Nat.le_refl _)

theorem ext_push (hN : H.get H.n = none) (x : AObj) : Ext H (H.push x) := by
  refine ⟨by simp, fun o ho e => ?_, fun o e => ?_⟩
  · simp at ho
    rw [AH.get_push, if_neg (by omega)]
    exact e
  · rw [AH.get_push, if_neg]
    · exact e
    · rintro rfl; rw [hN] at e; cases e

theorem ext_set {o : Nat} {x y : AObj} (hx : H.get o = some x) (hd : x ≠ .dead) : Ext H (H.set o y) := by
  refine ⟨by simp, fun o' ho e => ?_, fun o' e => get_dead_set hx hd e⟩
  rw [AH.get_set, if_neg]
  · exact e
  · rintro rfl; rw [hx] at e; cases e

theorem storeTo_ext {a : AV} {n : Nat} {us : List AV} (h : storeTo H a n us = some H') : Ext H H' := by
  unfold storeTo at h
  split at h
  · split at h
    · rename_i hg
      split at h
      · cases h; exact ext_set hg (by simp)
      · cases h
    · cases h
  · cases h

theorem frzAll_ext {f : AH → AV → Option (AV × AH)} (hf : ∀ (H H' : AH) (v v' : AV), f H v = some (v', H') → Ext H H') : ∀ (xs : List AV) (H H' : AH) (ys : List AV), frzAll f H xs = some (ys, H') → Ext H H' := by
  intro xs
  induction xs with
  | nil => intro H H' ys h; cases h; exact Ext.refl _
  | cons x xs ih =>
    intro H H' ys h
    simp only [frzAll] at h
    split at h
    · rename_i h1
      split at h
      · rename_i h2
        cases h
        exact (hf _ _ _ _ h1).trans (ih _ _ _ h2)
      · cases h
    · cases h

theorem freeze_ext : ∀ n, ∀ (H H' : AH) (v v' : AV), freeze n H v = some (v', H') → Ext H H' := by
  intro n
  induction n with
  | zero => intro H H' v v' h; cases h
  | succ n ih =>
    intro H H' v v' h
    simp only [freeze] at h
    split at h
    · split at h
      · rename_i hg
        split at h
        · split at h
          · rename_i hf
            split at h
            · cases h
              exact (ext_set hg (by simp)).trans (frzAll_ext ih _ _ _ _ hf)
            · cases h
          · cases h
        · cases h
      · cases h
    · rename_i cs
      cases hf : frzAll (freeze n) H cs with
      | none => simp [hf] at h
      | some p =>
        obtain ⟨us', H1⟩ := p
        simp [hf] at h
        obtain ⟨rfl, rfl⟩ := h
        exact frzAll_ext ih _ _ _ _ hf
    · rename_i cs
      cases hf : frzAll (freeze n) H cs with
      | none => simp [hf] at h
      | some p =>
        obtain ⟨us', H1⟩ := p
        simp [hf] at h
        obtain ⟨rfl, rfl⟩ := h
        exact frzAll_ext ih _ _ _ _ hf
    · cases h; exact Ext.refl _

theorem aappend_ext {ref : Bool} {ty : TypeId} {sz bytes : Nat} {x : AV} {ys : List AV} (hN : H.get H.n = none) (h : aappend H ref ty sz bytes x ys = some (v, H')) : Ext H H' := by
  have fr : ∀ xs, aappend.fresh H ref ty sz bytes x ys xs = some (v, H') → Ext H H' := by
    intro xs h
    unfold aappend.fresh at h
    split at h
    · cases h; exact Ext.refl _
    · split at h
      · split at h
        · cases h; exact ext_push hN _
        · cases h; exact ext_push hN _
      · cases h
  unfold aappend at h
  split at h
  · split at h
    · exact fr _ h
    · split at h
      · exact fr _ h
      · cases h
    · split at h
      · exact fr _ h
      · cases h
    · split at h
      · cases h; exact Ext.refl _
      · rename_i htk _
        split at h
        · cases h
          exact (ext_set htk (by simp)).trans (ext_push (get_n_set hN htk) _)
        · cases h
      · cases h
    · split at h
      · cases h; exact Ext.refl _
      · cases h
    · split at h
      · rename_i hg
        split at h
        · cases h
          exact (ext_set hg (by simp)).trans (ext_push (get_n_set hN hg) _)
        · cases h
      · cases h
    · cases h
  · cases h

theorem aop_ext {op : AOp} (hN : H.get H.n = none) (h : aop σ H op = some (v, H')) : Ext H H' := by
  by_cases hm : op.makes = true
  · obtain ⟨y, rfl, _⟩ := aop_makes hm h
    exact ext_push hN _
  by_cases hc : op.chain = false
  · have := (aop_local (H2 := H) hc (by simpa using hm) (fun _ _ _ _ _ e _ => e) h).1
    subst this
    exact Ext.refl _
  cases op <;> simp only [AOp.chain, not_true] at hc
  case store fz n a x =>
    simp only [aop] at h
    split at h
    · rename_i v' H1 hf
      cases hs : storeTo H1 (evalO σ a) n v'.cells with
      | none => simp [hs] at h
      | some H2 =>
        simp [hs] at h
        obtain ⟨rfl, rfl⟩ := h
        unfold freezeIf at hf
        split at hf
        · exact (freeze_ext _ _ _ _ _ hf).trans (storeTo_ext hs)
        · cases hf; exact storeTo_ext hs
    · cases h
  case append ref fz ty sz bytes x y =>
    simp only [aop] at h
    split at h
    · split at h
      · split at h
        · rename_i us H1 hf
          cases fz with
          | false =>
            simp only [Bool.false_eq_true, if_false, Option.some.injEq, Prod.mk.injEq] at hf
            obtain ⟨rfl, rfl⟩ := hf
            exact aappend_ext hN h
          | true =>
            simp only [if_true] at hf
            exact (frzAll_ext (freeze_ext 8) _ _ _ _ hf).trans (aappend_ext (frzAll_free _ _ _ _ hf hN) h)
        · cases h
      · cases h
    · cases h
  case appendZ ty sz bytes z x n =>
    simp only [aop] at h
    split at h
    · split at h
      · cases h; exact ext_push hN _
      · cases h
    · cases h
  case copy sz x y =>
    simp only [aop] at h
    split at h
    · split at h
      · split at h
        · rename_i hs
          cases h; exact storeTo_ext hs
        · cases h
      · cases h
    · cases h
  case clear sz z x =>
    simp only [aop] at h
    split at h
    · cases h; exact Ext.refl _
    · split at h
      · split at h
        · cases h; exact Ext.refl _
        · split at h
          · rename_i hs
            cases h; exact storeTo_ext hs
          · cases h
      · cases h
    · cases h
  case mapUpdate kk m k x =>
    simp only [aop] at h
    split at h
    · split at h
      · split at h
        · rename_i hg
          split at h
          · cases h; exact ext_set hg (by simp)
          · cases h; exact ext_set hg (by simp)
          · cases h
        · cases h
      · cases h
    · cases h
  case next x =>
    simp only [aop] at h
    split at h
    · split at h
      · rename_i hg
        split at h
        · cases h; exact ext_set hg (by simp)
        · cases h; exact Ext.refl _
      · cases h
    · cases h
  case usData x =>
    simp only [aop] at h
    split at h
    · cases h; exact Ext.refl _
    · split at h
      · split at h
        · cases h; exact Ext.refl _
        · cases h
      · cases h
    · cases h
  case usString ty p n =>
    simp only [aop] at h
    split at h
    · cases h; exact Ext.refl _
    · rename_i xs _ _ _
      split at h
      · split at h
        · cases hb : toBytes? xs with
          | none => simp [hb] at h
          | some bs => simp [hb] at h; obtain ⟨_, rfl⟩ := h; exact Ext.refl _
        · cases h
      · cases h
    · cases h
  case call => cases h
  case defer => cases h
  case recover => cases h
  case bad => cases h

end Go.Abs
