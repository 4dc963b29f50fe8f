/-
  EACH OPERATION OF THE ABSTRACT MACHINE STANDS FOR THE MODEL's: part D.
-/
import Derived.Test.YtpkgbbkhipkepaaGreatAbsSimC
namespace Go.Abs
open Go.RowKit

variable {P : Program} {n0 : Fr P} {w0 : World} {G : Gh} {H H' : AH} {w : World} {σ : List AV} {ρ : Operand → Value} {v : AV}

theorem shp_agg {as bs : List AV} (h : shp (.agg as) (.agg bs) = true) : as.length = bs.length ∧ ∀ (i : Nat) (a b : AV), as[i]? = some a → bs[i]? = some b → ∃ (j : IntKind) (x y : Int), a = .int j x ∧ b = .int j y := by
  simp only [shp, Bool.and_eq_true, beq_iff_eq] at h
  refine ⟨h.1, fun i a b ha hb => ?_⟩
  have hm : (a, b) ∈ as.zip bs := by
    obtain ⟨h1, rfl⟩ := List.getElem?_eq_some_iff.1 ha
    obtain ⟨h2, rfl⟩ := List.getElem?_eq_some_iff.1 hb
    have : (as.zip bs)[i]'(by simp; omega) = (as[i], bs[i]) := by simp
    rw [← this]
    exact List.getElem_mem _
  have := List.all_eq_true.1 h.2 _ hm
  split at this
  · rename_i k x j y e
    cases e
    have hk : k = j := by simpa using this
    subst hk
    exact ⟨k, x, y, rfl, rfl⟩
  · cases this

theorem fieldsFlat_spec {fs : Array Field} (h : fieldsFlat P fs = true) : ∀ (i : Nat) (f : Field), fs.toList[i]? = some f → f.name ≠ "_" ∧ f.offset = i ∧ ∃ j, P.underlying f.type = some (.int j) := by
  intro i f hf
  have hi : i < fs.size := by
    have := (List.getElem?_eq_some_iff.1 hf).1
    simpa using this
  have := List.all_eq_true.1 h i (by simp [hi])
  have hf' : fs[i]? = some f := by simpa using hf
  simp only [hf'] at this
  simp only [Bool.and_eq_true, bne_iff_ne, ne_eq, beq_iff_eq] at this
  refine ⟨this.1.1, this.1.2, ?_⟩
  split at this
  · exact ⟨_, by assumption⟩
  · exact absurd this.2 (by simp)

theorem equal_flat {t : TypeId} {fs : Array Field} (ht : P.underlying t = some (.struct fs)) (hf : fieldsFlat P fs = true) (hst : P.stoodInHeld t = false) {as bs : List AV} {us vs : List Value} (ha : Reps G as us) (hb : Reps G bs vs)
    (hl : as.length = fs.size) (hs : shp (.agg as) (.agg bs) = true) (d : Nat) : (Op.equalIn (d + 2) t (.agg us.toArray) (.agg vs.toArray)).run P w = .ok (keyEq (.agg as) (.agg bs)) w := by
  obtain ⟨h1, h2⟩ := shp_agg hs
  have hft : P.fieldsOf t = fs := by simp [Program.fieldsOf, ht]
  rw [run_equalIn_struct w (d + 1) t _ _ (by rw [hft]; exact ht) hst, hft]
  rw [run_eqFields_flat d ha hb fs.toList 0 fs.toList rfl (by simp [hl]) h1 (fieldsFlat_spec hf) h2]
  congr 1
  simp only [keyEq, h1, beq_self_eq_true, Bool.true_and, List.drop_zero]
  rfl

theorem sim_sameEq {t : TypeId} {e : EK} (he : EKOk P t e) {x y : AV} {vx vy : Value} (hx : Rep G x vx) (hy : Rep G y vy) {b : Bool} (h : sameEq e x y = some b) : (Op.equal t vx vy).run P w = .ok b w := by
  unfold sameEq at h
  split at h
  · cases h
  · split at h
    · cases h
      rw [hx.bool', hy.bool']
      unfold Op.equal Op.maxDepth Op.equalIn
      simp only [Sem.run_bind, run_underlying' (show P.underlying t = some .bool from he), Result.andThen_ok]
      rfl
    · cases h
  · split at h
    · rename_i as bs
      split at h
      · rename_i hc
        cases h
        obtain ⟨us, rfl, hu⟩ := hx.agg'
        obtain ⟨vs, rfl, hv⟩ := hy.agg'
        obtain ⟨fs, h1, h2, h3, h4, _⟩ := he
        exact equal_flat h1 h3 h4 hu hv (by rw [hc.1, h2]) hc.2.2 9998
      · cases h
    · cases h
  · split at h
    · split at h
      · rename_i hc
        obtain ⟨rfl, rfl, rfl⟩ := hc
        cases h
        obtain ⟨b1, s, e1, h1, rfl⟩ := hx.ptr'
        obtain ⟨b2, s2, e2, h2, rfl⟩ := hy.ptr'
        rw [h1] at h2
        cases h2
        obtain ⟨el, n, hu, hn, h0⟩ := he
        unfold Op.equal Op.maxDepth Op.equalIn
        simp only [Sem.run_bind, run_underlying' hu, run_sizeOf' hn, Result.andThen_ok, ne_eq, h0, not_false_eq_true, if_true, sameAddr, beq_self_eq_true]
        rfl
      · cases h
    · exact nilEq_spec he hx hy h
  · exact nilEq_spec he hx hy h

theorem simv_bin {op : BinOp} {t : TypeId} {e : EK} {x y : Operand} (he : EKOk P t e) (hc : e = .iface → isC x = true ∨ isC y = true) (hx : Rep G (evalO σ x) (ρ x)) (hy : Rep G (evalO σ y) (ρ y)) (hW : WRel n0 w0 G H w)
    (h : abin op e (evalO σ x) (evalO σ y) = some v) : SimV P (do eqGuard op t x y (ρ x) (ρ y); binOp op t (ρ x) (ρ y)) w n0 w0 G v H := by
  generalize evalO σ x = a at *
  generalize evalO σ y = b at *
  unfold abin at h
  split at h
  · rename_i k m k' m'
    rw [hx.int, hy.int]
    cases hl : litBin op (.int k m) (.int k' m') with
    | none => simp [hl] at h
    | some r =>
      simp [hl] at h
      subst h
      obtain ⟨h1, h2⟩ := litBin_int (P := P) (w := w) (t := t) hl
      refine .same hW ?_ (.lit h2)
      simp only [Sem.run_bind, run_eqGuard_other (show ¬ (Value.int k m = .nilIface ∧ Value.int k' m' = .nilIface) by simp) (by simp), Result.andThen_ok]
      exact h1
  · rename_i s s'
    obtain ⟨e1, _⟩ := hx.lit'
    obtain ⟨e2, _⟩ := hy.lit'
    rw [e1, e2]
    cases hl : litBin op (.string s) (.string s') with
    | none => simp [hl] at h
    | some r =>
      simp [hl] at h
      subst h
      obtain ⟨h1, h2⟩ := litBin_str (P := P) (w := w) (t := t) hl
      refine .same hW ?_ (.lit h2)
      simp only [Sem.run_bind, run_eqGuard_other (show ¬ (Value.string s = .nilIface ∧ Value.string s' = .nilIface) by simp) (by simp), Result.andThen_ok]
      exact h1
  · rename_i n1 n2
    have hne : ∀ r, sameEq e a b = some r → (∃ k n, ρ x = .int k n) ∧ (∃ k n, ρ y = .int k n) → False := by
      intro r hr ⟨⟨k, n, e1⟩, ⟨k', n', e2⟩⟩
      rw [e1] at hx
      rw [e2] at hy
      cases hx
      cases hy
      exact n1 _ _ _ _ rfl rfl
    have key : ∀ r, sameEq e a b = some r → (eqGuard op t x y (ρ x) (ρ y)).run P w = .ok () w ∧ (Op.equal t (ρ x) (ρ y)).run P w = .ok r w := by
      intro r hr
      refine ⟨?_, sim_sameEq he hx hy hr⟩
      by_cases hi : e = .iface
      · refine run_eqGuard_iface (hc hi) ?_
        rintro cs ds ⟨e1, e2⟩
        subst hi
        obtain ⟨c, d, h1, h2, _⟩ := nilEq_key (e := .iface) (x := a) (y := b) (b := r) hr
        rcases nil_iface h1 hx with ⟨_, e3⟩ | ⟨_, _, _, e3⟩ <;> rw [e3] at e1 <;> cases e1
      · by_cases hf : ∃ n, e = .flat n
        · obtain ⟨n, rfl⟩ := hf
          obtain ⟨fs, _, _, _, _, h5⟩ := he
          simp only [sameEq] at hr
          split at hr
          · obtain ⟨us, e1, _⟩ := hx.agg'
            obtain ⟨vs, e2, _⟩ := hy.agg'
            rw [e1, e2]
            exact run_eqGuard_agg w op t x y _ _ h5
          · cases hr
        · refine run_eqGuard_other ?_ ?_
          · rintro ⟨e1, e2⟩
            rw [e1] at hx
            rw [e2] at hy
            cases hx
            cases hy
            cases e <;> first | (cases hr; done) | exact hi rfl | exact hf ⟨_, rfl⟩ 
          · rintro cs ds ⟨e1, e2⟩
            rw [e1] at hx
            cases hx with
            | lit hcl => cases hcl
            | agg _ _ => cases e <;> first | (cases hr; done) | exact hi rfl | exact hf ⟨_, rfl⟩
    have nint : ∀ r, sameEq e a b = some r → (binOp .eql t (ρ x) (ρ y)).run P w = .ok (.bool r) w ∧ (binOp .neq t (ρ x) (ρ y)).run P w = .ok (.bool (!r)) w := by
      intro r hr
      obtain ⟨_, k2⟩ := key r hr
      have n1' : ∀ k m k' m', ¬ (ρ x = .int k m ∧ ρ y = .int k' m') := fun k m k' m' ⟨e1, e2⟩ => hne r hr ⟨⟨k, m, e1⟩, ⟨k', m', e2⟩⟩
      have n2' : ∀ s s', ¬ (ρ x = .string s ∧ ρ y = .string s') := by
        rintro s s' ⟨e1, e2⟩
        rw [e1] at hx
        rw [e2] at hy
        cases hx
        cases hy
        exact n2 _ _ rfl rfl
      have n3' : ∀ k s, ¬ (ρ x = .float k s) := by
        rintro k s e1
        rw [e1] at hx
        cases hx
        cases e <;> simp [sameEq, sameEq.nilEq, nilness] at hr
      have n4' : ∀ k s u, ¬ (ρ x = .complex k s u) := by
        rintro k s u e1
        rw [e1] at hx
        cases hx
        cases e <;> simp [sameEq, sameEq.nilEq, nilness] at hr
      constructor
      · generalize ρ x = p at *
        generalize ρ y = q at *
        cases p <;> cases q <;> first
          | exact absurd ⟨rfl, rfl⟩ (n1' _ _ _ _) | exact absurd ⟨rfl, rfl⟩ (n2' _ _) | exact absurd rfl (n3' _ _) | exact absurd rfl (n4' _ _ _)
          | (simp only [binOp, Sem.run_bind, k2, Result.andThen_ok, Sem.run_pure])
      · generalize ρ x = p at *
        generalize ρ y = q at *
        cases p <;> cases q <;> first
          | exact absurd ⟨rfl, rfl⟩ (n1' _ _ _ _) | exact absurd ⟨rfl, rfl⟩ (n2' _ _) | exact absurd rfl (n3' _ _) | exact absurd rfl (n4' _ _ _)
          | (simp only [binOp, Sem.run_bind, k2, Result.andThen_ok, Sem.run_pure])
    split at h
    · cases hs : sameEq e a b with
      | none => simp [hs] at h
      | some r =>
        simp [hs] at h
        subst h
        refine .same hW ?_ (.lit rfl)
        simp only [Sem.run_bind, (key r hs).1, Result.andThen_ok]
        exact (nint r hs).1
    · cases hs : sameEq e a b with
      | none => simp [hs] at h
      | some r =>
        simp [hs] at h
        subst h
        refine .same hW ?_ (.lit rfl)
        simp only [Sem.run_bind, (key r hs).1, Result.andThen_ok]
        exact (nint r hs).2
    · cases h

end Go.Abs
