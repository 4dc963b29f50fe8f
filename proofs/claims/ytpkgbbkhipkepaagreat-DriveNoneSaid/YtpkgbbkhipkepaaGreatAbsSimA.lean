/-
  EACH OPERATION OF THE ABSTRACT MACHINE STANDS FOR THE MODEL's: part A.
-/
import Derived.Test.YtpkgbbkhipkepaaGreatAbsHeap
import Derived.Test.YtpkgbbkhipkepaaGreatAbsPrep
import Derived.Laws.Cells
namespace Go.Abs
open Go.RowKit

variable {P : Program} {n0 : Fr P} {w0 : World} {G : Gh} {H : AH} {w : World} {σ : List AV} {ρ : Operand → Value}

/-- The operation has yielded u, in the world w'. -/
def Did (r : Result Next) (u : Value) (w' : World) : Prop := r = .ok (.value u) w' ∨ (r = .ok .skip w' ∧ u = undef)

def Sim (r : Result Next) (n0 : Fr P) (w0 : World) (G : Gh) (v : AV) (H' : AH) : Prop := ∃ u w' G', Did r u w' ∧ G.le G' ∧ WRel n0 w0 G' H' w' ∧ Rep G' v u

theorem Sim.val {r : Result Next} {v : AV} {u : Value} (hr : r = .ok (.value u) w) (h : WRel n0 w0 G H w) (hv : Rep G v u) : Sim r n0 w0 G v H := ⟨u, w, G, .inl hr, Gh.le.refl _, h, hv⟩

theorem rep_und : Rep G .und undef := .lit rfl

/-- The operands stand for their values. -/
def EnvOk (G : Gh) (σ : List AV) (ρ : Operand → Value) : Prop := ∀ x, okO x = true → Rep G (evalO σ x) (ρ x)

theorem EnvOk.mono {G G' : Gh} (hG : G.le G') (h : EnvOk G σ ρ) : EnvOk G' σ ρ := fun x hx => (h x hx).mono hG

/-! ### Inversions -/
theorem Rep.int {k : IntKind} {n : Int} {u : Value} (h : Rep G (.int k n) u) : u = .int k n := by cases h; rfl
theorem Rep.bool' {b : Bool} {u : Value} (h : Rep G (.bool b) u) : u = .bool b := by cases h; rfl
theorem Rep.lit' {v : Value} {u : Value} (h : Rep G (.lit v) u) : u = v ∧ closedV v = true := by cases h; exact ⟨rfl, ‹_›⟩
theorem Rep.agg' {cs : List AV} {u : Value} (h : Rep G (.agg cs) u) : ∃ us, u = .agg us.toArray ∧ Reps G cs us := by
  cases h with
  | agg h1 h2 => exact ⟨_, rfl, h1, h2⟩
theorem Rep.tup' {cs : List AV} {u : Value} (h : Rep G (.tup cs) u) : ∃ us, u = .tuple us.toArray ∧ Reps G cs us := by
  cases h with
  | tup h1 h2 => exact ⟨_, rfl, h1, h2⟩
theorem Rep.ptr' {o g k : Nat} {u : Value} (h : Rep G (.ptr o g k) u) : ∃ b s e, G.loc o g = some (b, s, e) ∧ u = .pointer (some ⟨b, s + k, none⟩) := by
  cases h with
  | ptr h => exact ⟨_, _, _, h, rfl⟩
theorem Rep.ip' {cs : List AV} {u : Value} (h : Rep G (.ip cs) u) : ∃ b k us, u = .pointer (some ⟨b, k, none⟩) ∧ Reps G cs us ∧ ∀ i (h : i < us.length), G.mem b (k + i) = some us[i] := by
  cases h with
  | ip h1 h2 h3 => exact ⟨_, _, _, rfl, ⟨h1, h2⟩, h3⟩
theorem Rep.mp' {o : Nat} {u : Value} (h : Rep G (.mp o) u) : ∃ r, G.mp o = some r ∧ u = .map (some r) := by
  cases h with
  | mp h => exact ⟨_, h, rfl⟩
theorem Rep.sl' {t : Tk} {sz : Nat} {xs : List AV} {u : Value} (h : Rep G (.sl t sz xs) u) : ∃ b k cap us, u = .slice (some ⟨b, k, none⟩) xs.length cap ∧ Reps G (flat xs) us ∧
    (∀ x ∈ xs, x.cells.length = sz) ∧ (∀ i (h : i < us.length), G.mem b (k + i) = some us[i]) ∧ xs.length ≤ cap ∧ tkOk G t b k xs.length cap sz := by
  cases h with
  | sl h1 h2 h3 h4 h5 h6 => exact ⟨_, _, _, _, rfl, ⟨h1, h3⟩, h2, h4, h5, h6⟩

/-! ### Types -/
theorem run_underlying' {t : TypeId} {d : TypeDesc} (h : P.underlying t = some d) (w : World) : (underlying t).run P w = .ok d w := by
  simp [underlying, h]
theorem run_typeInfo' {t : TypeId} {i : TypeInfo} (h : P.info? t = some i) (w : World) : (typeInfo t).run P w = .ok i w := by
  simp [typeInfo, h]
theorem run_sizeOf' {t : TypeId} {n : Nat} (h : sizeN P t = some n) (w : World) : (sizeOf t).run P w = .ok n w := by
  unfold sizeN at h
  cases hi : P.info? t with
  | none => simp [hi] at h
  | some i =>
    simp [hi] at h
    simp [sizeOf, run_typeInfo' hi, h]
theorem run_zero' {t : TypeId} {z : Value} (h : (P.info? t).bind (·.zero) = some z) (w : World) : (zeroValue t).run P w = .ok z w := by
  cases hi : P.info? t with
  | none => simp [hi] at h
  | some i =>
    simp [hi] at h
    simp [zeroValue, run_typeInfo' hi, h]
theorem zeroC_run {t : TypeId} {z : List AV} (h : zeroC P t = some z) (w : World) : ∃ v, (zeroValue t).run P w = .ok v w ∧ Reps G z v.cells.toList := by
  unfold zeroC at h
  cases hz : (P.info? t).bind (·.zero) with
  | none => simp [hz] at h
  | some v =>
    simp only [hz] at h
    split at h
    · rename_i hc
      cases h
      refine ⟨v, run_zero' hz w, by simp, fun i h1 h2 => ?_⟩
      simp only [List.getElem_map]
      exact .lit (List.all_eq_true.1 hc _ (List.getElem_mem _))
    · cases h
theorem zeroV_run {t : TypeId} {z : AV} (h : zeroV P t = some z) (w : World) : ∃ v, (zeroValue t).run P w = .ok v w ∧ Rep G z v := by
  unfold zeroV at h
  cases hz : (P.info? t).bind (·.zero) with
  | none => simp [hz] at h
  | some v =>
    simp only [hz] at h
    split at h
    · rename_i cs e
      split at h
      · rename_i hc
        cases h
        cases e
        refine ⟨_, run_zero' hz w, ?_⟩
        have : (Value.agg cs) = .agg cs.toList.toArray := by simp
        rw [this]
        refine .agg (by simp) fun i h1 h2 => ?_
        simp only [List.getElem_map]
        exact .lit (List.all_eq_true.1 hc _ (List.getElem_mem _))
      · cases h
    · rename_i v' _ e
      split at h
      · rename_i hc
        cases h
        cases e
        exact ⟨_, run_zero' hz w, .lit hc⟩
      · cases h
    · cases h

/-- How a type is loaded. -/
theorem aggN_none {t : TypeId} (h : aggN P t = some none) (w : World) : (isAgg t).run P w = .ok false w := by
  unfold aggN at h
  split at h
  · cases h
  · cases h
  · rename_i d i h1 h2 e1 e2
    simp only [isAgg, Sem.run_bind, run_underlying' e1, Result.andThen_ok]
    cases d <;> first | rfl | exact absurd e1 (h1 _ _ e2) | exact absurd e1 (h2 _ _) 
  · cases h
theorem aggN_some {t : TypeId} {n : Nat} (h : aggN P t = some (some n)) (w : World) : (isAgg t).run P w = .ok true w ∧ (sizeOf t).run P w = .ok n w := by
  unfold aggN at h
  split at h
  · rename_i fs i e1 e2
    cases h
    refine ⟨?_, run_sizeOf' (by simp [sizeN, e2]) w⟩
    simp [isAgg, run_underlying' e1]
  · cases h
  · cases h
  · cases h

end Go.Abs
