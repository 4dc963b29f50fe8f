/-
  AN OPERATION AS IT IS LOOKED UP STANDS FOR THE MODEL's: append and store with their flags.
-/
import Derived.Test.YtpkgbbkhipkepaaGreatAbsSimM
namespace Go.Abs
open Go.RowKit

variable {P : Program} {n0 : Fr P} {w0 : World} {G : Gh} {H H' : AH} {w : World} {σ : List AV} {ρ : Operand → Value} {v : AV}

theorem SimV.mono {s : Sem Value} {G' : Gh} (hG : G.le G') (h : SimV P s w n0 w0 G' v H') : SimV P s w n0 w0 G v H' := by
  obtain ⟨u, w', G'', h1, h2, h3, h4⟩ := h
  exact ⟨u, w', G'', h1, hG.trans h2, h3, h4⟩
theorem SimU.mono {s : Sem Unit} {G' : Gh} (hG : G.le G') (h : SimU P s w n0 w0 G' H') : SimU P s w n0 w0 G H' := by
  obtain ⟨w', G'', h1, h2, h3⟩ := h
  exact ⟨w', G'', h1, hG.trans h2, h3⟩

/-- A value of one cell is its own cell. -/
theorem Rep.cell1 {x : AV} {u : Value} (h : Rep G x u) (hx : ∀ cs, x ≠ .agg cs) : u.cells = #[u] := by
  cases h with
  | lit h => cases u <;> simp_all [closedV, Value.cells]
  | agg => exact absurd rfl (hx _)
  | _ => rfl

/-- Elements by their cells. -/
theorem elemReps {sz : Nat} : ∀ (ys : List AV) (us : List Value), (∀ y ∈ ys, y.cells.length = sz) → Reps G (flat ys) us → ∃ vs : List Value, Reps G ys vs ∧ vs.flatMap (fun v => v.cells.toList) = us := by
  intro ys
  induction ys with
  | nil =>
    intro us _ h
    have : us = [] := by have := h.1; simpa [flat] using this.symm
    subst this
    exact ⟨[], Reps.nil, rfl⟩
  | cons y ys ih =>
    intro us hs h
    have hfl : flat (y :: ys) = y.cells ++ flat ys := by simp [flat]
    rw [hfl] at h
    have h1 := h.take y.cells.length
    have h2 := h.drop y.cells.length
    rw [List.take_left'  rfl] at h1
    rw [List.drop_left' rfl] at h2
    obtain ⟨vs, r1, r2⟩ := ih _ (fun x hx => hs x (List.mem_cons_of_mem _ hx)) h2
    by_cases hy : ∃ cs, y = .agg cs
    · obtain ⟨cs, rfl⟩ := hy
      refine ⟨.agg (us.take cs.length).toArray :: vs, Reps.cons (.agg h1.1 h1.2) r1, ?_⟩
      simp only [List.flatMap_cons, r2]
      show us.take cs.length ++ us.drop cs.length = us
      exact List.take_append_drop _ _
    · have hc : y.cells = [y] := by
        cases y <;> first | rfl | exact absurd ⟨_, rfl⟩ hy
      rw [hc] at h1 h2 r2
      have hus : ∃ u r, us = u :: r := by
        cases us with
        | nil => have := h1.1; simp at this
        | cons u r => exact ⟨u, r, rfl⟩
      obtain ⟨u, r, rfl⟩ := hus
      have hr : Rep G y u := by
        have := h1.head
        simpa using this
      refine ⟨u :: vs, Reps.cons hr r1, ?_⟩
      simp only [List.flatMap_cons, r2, hr.cell1 (fun cs hcs => hy ⟨cs, hcs⟩)]
      simp

theorem flatReps : ∀ (ys : List AV) (vs : List Value), Reps G ys vs → Reps G (flat ys) (vs.flatMap fun v => v.cells.toList) := by
  intro ys
  induction ys with
  | nil =>
    intro vs h
    have : vs = [] := by have := h.1; simpa using this.symm
    subst this
    exact Reps.nil
  | cons y ys ih =>
    intro vs h
    cases vs with
    | nil => have := h.1; simp at this
    | cons u vs =>
      have := h.head.cells.append (ih vs h.tail)
      simpa [flat] using this

theorem frzAll_length {f : AH → AV → Option (AV × AH)} : ∀ (xs : List AV) (H H' : AH) (ys : List AV), frzAll f H xs = some (ys, H') → ys.length = xs.length := by
  intro xs
  induction xs with
  | nil => intro H H' ys h; cases h; rfl
  | cons x xs ih =>
    intro H H' ys h
    simp only [frzAll] at h
    split at h
    · split at h
      · rename_i h2
        cases h
        simp [ih _ _ _ h2]
      · cases h
    · cases h

theorem get_n_set {o : Nat} {x y : AObj} (hF : H.get H.n = none) (hx : H.get o = some x) : (H.set o y).get (H.set o y).n = none := by
  rw [AH.n_set, AH.get_set, if_neg]
  · exact hF
  · rintro e; rw [e, hx] at hF; cases hF

theorem freeze_free : ∀ n, ∀ (H H' : AH) (v v' : AV), freeze n H v = some (v', H') → H.get H.n = none → H'.get H'.n = none := by
  have all : ∀ (f : AH → AV → Option (AV × AH)), (∀ (H H' : AH) (v v' : AV), f H v = some (v', H') → H.get H.n = none → H'.get H'.n = none) → ∀ (xs : List AV) (H H' : AH) (ys : List AV), frzAll f H xs = some (ys, H') → H.get H.n = none → H'.get H'.n = none := by
    intro f hf xs
    induction xs with
    | nil => intro H H' ys h hF; cases h; exact hF
    | cons x xs ih =>
      intro H H' ys h hF
      simp only [frzAll] at h
      split at h
      · rename_i h1
        split at h
        · rename_i h2
          cases h
          exact ih _ _ _ h2 (hf _ _ _ _ h1 hF)
        · cases h
      · cases h
  intro n
  induction n with
  | zero => intro H H' v v' h; cases h
  | succ n ih =>
    intro H H' v v' h hF
    simp only [freeze] at h
    split at h
    · split at h
      · rename_i hg
        split at h
        · split at h
          · rename_i hf
            split at h
            · cases h
              exact all _ ih _ _ _ _ hf (get_n_set hF hg)
            · cases h
          · cases h
        · cases h
      · cases h
    · rename_i cs
      cases hf : frzAll (freeze n) H cs with
      | none => simp [hf] at h
      | some p =>
        obtain ⟨us', H1⟩ := p
        simp [hf] at h
        obtain ⟨rfl, rfl⟩ := h
        exact all _ ih _ _ _ _ hf hF
    · rename_i cs
      cases hf : frzAll (freeze n) H cs with
      | none => simp [hf] at h
      | some p =>
        obtain ⟨us', H1⟩ := p
        simp [hf] at h
        obtain ⟨rfl, rfl⟩ := h
        exact all _ ih _ _ _ _ hf hF
    · cases h; exact hF

theorem frzAll_free {n : Nat} : ∀ (xs : List AV) (H H' : AH) (ys : List AV), frzAll (freeze n) H xs = some (ys, H') → H.get H.n = none → H'.get H'.n = none := by
  intro xs
  induction xs with
  | nil => intro H H' ys h hF; cases h; exact hF
  | cons x xs ih =>
    intro H H' ys h hF
    simp only [frzAll] at h
    split at h
    · rename_i h1
      split at h
      · rename_i h2
        cases h
        exact ih _ _ _ h2 (freeze_free _ _ _ _ _ h1 hF)
      · cases h
    · cases h

theorem simv_append {ref fz : Bool} {t u e ty : TypeId} {i : TypeInfo} {d : TypeDesc} {z : List AV} {x y : Operand} (ht : P.underlying t = some (.slice e)) (hu : P.underlying u = some d) (hd : ∀ k, d ≠ .int k) (hi : P.info? e = some i) (hz : zeroC P e = some z) (hzl : z.length = i.size) (hs1 : 1 ≤ i.size)
    (hx : Rep G (evalO σ x) (ρ x)) (hy : Rep G (evalO σ y) (ρ y)) (hW : WRel n0 w0 G H w) (hF : H.get H.n = none) (h : aop σ H (.append ref fz e i.size i.bytes x y) = some (v, H')) : SimV P (Builtin.append_ #[t, u] ty #[ρ x, ρ y]) w n0 w0 G v H' := by
  simp only [aop] at h
  split at h
  · rename_i ys hys
    split at h
    rotate_left
    · cases h
    rename_i hall0
    have hall : ∀ y ∈ ys, y.cells.length = i.size := fun y hy => by simpa using List.all_eq_true.1 hall0 y hy
    split at h
    · rename_i us H1 hf
      obtain ⟨zv, hzv, hzr⟩ := zeroC_run (G := G) hz w
      have hzs : zv.cells.size = i.size := by have := hzr.1; simp at this; omega
      have hzz : (P.info? e).bind (·.zero) = some zv := by
        cases hb : (P.info? e).bind (·.zero) with
        | none =>
          rw [hi] at hb
          simp [zeroValue, run_typeInfo' hi] at hzv
          simp at hb
          rw [hb] at hzv
          cases hzv
        | some z2 =>
          have := run_zero' hb w
          rw [hzv] at this
          injection this with this _
          rw [this]
      obtain ⟨vs, i3, i0⟩ := items_run (P := P) hW hy hys hall
      have key : ∃ G1, G.le G1 ∧ WRel n0 w0 G1 H1 w ∧ Reps G1 (flat us) vs ∧ us.length = ys.length ∧ H1.get H1.n = none := by
        cases fz with
        | false =>
          simp only [Bool.false_eq_true, if_false, Option.some.injEq, Prod.mk.injEq] at hf
          obtain ⟨rfl, rfl⟩ := hf
          exact ⟨G, Gh.le.refl _, hW, i3, rfl, hF⟩
        | true =>
          simp only [if_true] at hf
          obtain ⟨es, r1, r2⟩ := elemReps ys vs hall i3
          obtain ⟨G1, a1, a2, a3⟩ := frzAll_ok (freeze_ok 8) _ _ _ _ _ _ hW r1 hf
          refine ⟨G1, a1, a2, ?_, frzAll_length _ _ _ _ hf, frzAll_free _ _ _ _ hf hF⟩
          rw [← r2]
          exact flatReps _ _ a3
      obtain ⟨G1, a1, a2, a3, a4, a5⟩ := key
      refine SimV.mono a1 (simv_aappend (ref := ref) (i := i) ⟨ht, ⟨d, hu, hd⟩, hi, fun w' hw' => ?_⟩ hs1 hzz hzs (hx.mono a1) a2 (a2.free a5) h)
      obtain ⟨i1, i2, _⟩ := i0 w' hw'
      rw [a4]
      exact ⟨vs, i1, i2, a3⟩
    · cases h
  · cases h

theorem simu_storeF {fz : Bool} {t : TypeId} {n : Nat} {a x : Operand} (hn : sizeN P t = some n) (ha : Rep G (evalO σ a) (ρ a)) (hx : Rep G (evalO σ x) (ρ x)) (hW : WRel n0 w0 G H w) (h : aop σ H (.store fz n a x) = some (v, H')) :
    v = .und ∧ SimU P (Instr.storeAt t (ρ a) (ρ x)) w n0 w0 G H' := by
  simp only [aop] at h
  split at h
  · rename_i v' H1 hf
    obtain ⟨G1, a1, a2, a3⟩ := freezeIf_ok hW hx hf
    cases hs : storeTo H1 (evalO σ a) n v'.cells with
    | none => simp [hs] at h
    | some H2 =>
      simp [hs] at h
      obtain ⟨rfl, rfl⟩ := h
      exact ⟨rfl, SimU.mono a1 (simu_store hn a2 (ha.mono a1) a3 hs)⟩
  · cases h

end Go.Abs
