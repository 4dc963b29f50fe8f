/-
  A CHANGEABLE ROW IS GIVEN UP: its cells stay.
-/
import Derived.Test.YtpkgbbkhipkepaaGreatAbsSimL
namespace Go.Abs
open Go.RowKit

variable {P : Program} {n0 : Fr P} {w0 : World} {G : Gh} {H H' : AH} {w : World} {σ : List AV} {ρ : Operand → Value} {v : AV}

theorem WRel.rest (h : WRel n0 w0 G H w) {o ty g fz : Nat} {cs : List AV} (hx : H.get o = some (.cells ty g fz cs)) :
    ∃ b s e C fr, G.loc o g = some (b, s, e) ∧ w.heap[b]? = some (.cells C ty fr) ∧ s + cs.length ≤ C.size ∧ (∀ i (h : i < cs.length) (h' : s + i < C.size), Rep G cs[i] C[s + i]) ∧
      G.le (G.withCells b s (s + cs.length) C) ∧ WRel n0 w0 (G.withCells b s (s + cs.length) C) (H.set o .dead) w := by
  obtain ⟨b, s, e, C, fr, l1, l2, l3, l4, l5, l6, l7, l8, l9⟩ := h.obj o _ hx
  have hle : G.le (G.withCells b s (s + cs.length) C) := Gh.le_withCells (fun k _ => l7 k)
  have hk := h.kill o
  have hown : ∀ o' y, (H.set o .dead).get o' = some y → blkOf G o' y ≠ some b := by
    intro o' y hy hb
    rw [AH.get_set] at hy
    split at hy
    · cases hy; simp [blkOf] at hb
    · rename_i hne
      exact hne (h.sep o' o y _ b hy hx hb (by simp [blkOf, l1]))
  have hsame : ∀ o' y b', (H.set o .dead).get o' = some y → blkOf (G.withCells b s (s + cs.length) C) o' y = some b' → blkOf G o' y = some b' := fun o' y b' hy hb => hk.blk_same hle hy hb
  refine ⟨b, s, e, C, fr, l1, l3, by omega, l6, hle, hk.below, hk.size, fun b' k u hu => ?_, fun o' y hy => ?_, fun o1 o2 x1 x2 b1 hx1 hx2 hb1 hb2 => ?_, fun b1 hb1 => ⟨(hk.lt b1 hb1).1, fun o1 x1 hx1 hbx => (hk.lt b1 hb1).2 o1 x1 hx1 (hsame _ _ _ hx1 hbx)⟩, fun o1 ho1 => hk.fresh o1 ho1, fun o1 ho1 => hk.res o1 ho1, hk.bare_cells l2⟩
  · have hu' : (G.withCells b s (s + cs.length) C).mem b' k = some u := hu
    simp only [Gh.withCells] at hu'
    split at hu'
    · rename_i hc
      obtain ⟨rfl, _⟩ := hc
      rw [cells_cell l3]
      exact hu'
    · exact hk.mem _ _ _ hu'
  · refine (hk.obj o' y hy).mono hle fun b1 hb1 => ⟨rfl, fun k => ?_⟩
    have hne : b1 ≠ b := by rintro rfl; exact hown o' y hy hb1
    show (G.withCells b s (s + cs.length) C).mem b1 k = _
    simp [Gh.withCells, hne]
  · exact hk.sep o1 o2 x1 x2 b1 hx1 hx2 (hsame _ _ _ hx1 hb1) (hsame _ _ _ hx2 hb2)

def FrOk (n0 : Fr P) (w0 : World) (w : World) (f : AH → AV → Option (AV × AH)) : Prop := ∀ (G : Gh) (H H' : AH) (v v' : AV) (u : Value), WRel n0 w0 G H w → Rep G v u → f H v = some (v', H') → ∃ G', G.le G' ∧ WRel n0 w0 G' H' w ∧ Rep G' v' u

theorem frzAll_ok {f : AH → AV → Option (AV × AH)} (hf : FrOk n0 w0 w f) : ∀ (xs : List AV) (G : Gh) (H H' : AH) (xs' : List AV) (us : List Value), WRel n0 w0 G H w → Reps G xs us → frzAll f H xs = some (xs', H') →
    ∃ G', G.le G' ∧ WRel n0 w0 G' H' w ∧ Reps G' xs' us := by
  intro xs
  induction xs with
  | nil =>
    intro G H H' xs' us hW hr h
    cases h
    exact ⟨G, Gh.le.refl _, hW, hr⟩
  | cons x xs ih =>
    intro G H H' xs' us hW hr h
    simp only [frzAll] at h
    split at h
    · rename_i x' H1 h1
      split at h
      · rename_i ys H2 h2
        cases h
        cases us with
        | nil => have := hr.1; simp at this
        | cons u us =>
          obtain ⟨G1, a1, a2, a3⟩ := hf G H H1 x x' u hW hr.head h1
          obtain ⟨G2, b1, b2, b3⟩ := ih G1 H1 _ ys us a2 (hr.tail.mono a1) h2
          exact ⟨G2, a1.trans b1, b2, Reps.cons (a3.mono b1) b3⟩
      · cases h
    · cases h

theorem freeze_ok : ∀ n, FrOk n0 w0 w (freeze n) := by
  intro n
  induction n with
  | zero => intro G H H' v v' u hW hr h; cases h
  | succ n ih =>
    intro G H H' v v' u hW hr h
    simp only [freeze] at h
    split at h
    · rename_i o g sz off len
      split at h
      · rename_i ty g' fz cs hg
        split at h
        · rename_i hc
          obtain ⟨rfl, hlen, rfl⟩ := hc
          split at h
          · rename_i us H1 hf
            split at h
            · rename_i hone
              cases h
              obtain ⟨b, s, e, C, fr, l1, l3, l4, l6, r1, r2⟩ := hW.rest hg
              have hadd : (off + len) * sz = off * sz + len * sz := Nat.add_mul _ _ _
              have hcells : Reps G ((cs.drop (off * sz)).take (len * sz)) ((C.toList.drop (s + off * sz)).take (len * sz)) := by
                refine ⟨by simp; omega, fun i hi hi' => ?_⟩
                simp only [List.getElem_take, List.getElem_drop]
                have := l6 (off * sz + i) (by simp at hi; omega) (by simp at hi; omega)
                simpa [Nat.add_assoc] using this
              obtain ⟨G2, a1, a2, a3⟩ := frzAll_ok ih _ _ _ _ _ _ r2 (hcells.mono r1) hf
              refine ⟨G2, r1.trans a1, a2, ?_⟩
              have hul : us.length = len * sz := by
                have h1 := a3.1
                have h2 := hcells.1
                simp only [List.length_take, List.length_drop] at h1 h2
                omega
              obtain ⟨f1, f2⟩ := chunk_flat sz len us hul (.inl hone)
              have hcl := chunk_length sz len us
              have hmem : ∀ i (h : i < ((C.toList.drop (s + off * sz)).take (len * sz)).length), G2.mem b (s + off * sz + i) = some ((C.toList.drop (s + off * sz)).take (len * sz))[i] := by
                intro i hi
                apply a1.mem
                show (G.withCells b s (s + cs.length) C).mem b (s + off * sz + i) = _
                simp only [Gh.withCells]
                have hi2 : i < len * sz := by simp at hi; omega
                rw [if_pos ⟨trivial, by omega, by omega⟩]
                simp only [List.getElem_take, List.getElem_drop]
                rw [Array.getElem?_eq_getElem (by omega)]
                simp
              cases hr with
              | rs k1 k2 k3 =>
                rw [l1] at k1
                cases k1
                have := Rep.sl (G := G2) (t := .no) (sz := sz) (xs := chunk sz len us) (us := (C.toList.drop (s + off * sz)).take (len * sz)) (b := b) (k := s + off * sz) (by rw [f1]; exact a3.1) f2 (fun i hi hi' => by simp only [f1]; exact a3.2 i (by rw [f1] at hi; exact hi) hi') hmem (by rw [hcl]; exact k2) trivial
                rw [hcl] at this
                exact this
              | @rs0 _ _ _ _ b2 k2 _ _ =>
                have := Rep.sl (G := G2) (t := .no) (sz := sz) (xs := []) (us := []) (cap := 0) (b := b2) (k := k2) rfl (fun x hx => by cases hx) (fun i hi => absurd hi (Nat.not_lt_zero _)) (fun i hi => absurd hi (Nat.not_lt_zero _)) (Nat.le_refl _) trivial
                exact this
            · cases h
          · cases h
        · cases h
      · cases h
    · rename_i cs
      cases hf : frzAll (freeze n) H cs with
      | none => simp [hf] at h
      | some p =>
        obtain ⟨us', H1⟩ := p
        simp [hf] at h
        obtain ⟨rfl, rfl⟩ := h
        obtain ⟨us, rfl, hr'⟩ := hr.agg'
        obtain ⟨G2, a1, a2, a3⟩ := frzAll_ok ih _ _ _ _ _ _ hW hr' hf
        exact ⟨G2, a1, a2, .agg a3.1 a3.2⟩
    · rename_i cs
      cases hf : frzAll (freeze n) H cs with
      | none => simp [hf] at h
      | some p =>
        obtain ⟨us', H1⟩ := p
        simp [hf] at h
        obtain ⟨rfl, rfl⟩ := h
        obtain ⟨us, rfl, hr'⟩ := hr.tup'
        obtain ⟨G2, a1, a2, a3⟩ := frzAll_ok ih _ _ _ _ _ _ hW hr' hf
        exact ⟨G2, a1, a2, .tup a3.1 a3.2⟩
    · cases h
      exact ⟨G, Gh.le.refl _, hW, hr⟩

theorem freezeIf_ok {b : Bool} {v' : AV} {u : Value} (hW : WRel n0 w0 G H w) (hr : Rep G v u) (h : freezeIf b H v = some (v', H')) : ∃ G', G.le G' ∧ WRel n0 w0 G' H' w ∧ Rep G' v' u := by
  unfold freezeIf at h
  split at h
  · exact freeze_ok 8 _ _ _ _ _ _ hW hr h
  · cases h
    exact ⟨G, Gh.le.refl _, hW, hr⟩

end Go.Abs
