/-
  EACH OPERATION OF THE ABSTRACT MACHINE STANDS FOR THE MODEL's: part B.
-/
import Derived.Test.YtpkgbbkhipkepaaGreatAbsSimA
namespace Go.Abs
open Go.RowKit

variable {P : Program} {n0 : Fr P} {w0 : World} {G : Gh} {H H' : AH} {w : World} {σ : List AV} {ρ : Operand → Value} {v : AV}

def SimV (P : Program) (s : Sem Value) (w : World) (n0 : Fr P) (w0 : World) (G : Gh) (v : AV) (H' : AH) : Prop := ∃ u w' G', s.run P w = .ok u w' ∧ G.le G' ∧ WRel n0 w0 G' H' w' ∧ Rep G' v u
def SimU (P : Program) (s : Sem Unit) (w : World) (n0 : Fr P) (w0 : World) (G : Gh) (H' : AH) : Prop := ∃ w' G', s.run P w = .ok () w' ∧ G.le G' ∧ WRel n0 w0 G' H' w'

theorem SimV.sim {s : Sem Value} (h : SimV P s w n0 w0 G v H') : Sim ((do pure (Next.value (← s)) : Sem Next).run P w) n0 w0 G v H' := by
  obtain ⟨u, w', G', h1, h2, h3, h4⟩ := h
  exact ⟨u, w', G', .inl (by simp [h1]), h2, h3, h4⟩
theorem SimU.sim {s : Sem Unit} (h : SimU P s w n0 w0 G H') : Sim ((do s; pure Next.skip : Sem Next).run P w) n0 w0 G .und H' := by
  obtain ⟨w', G', h1, h2, h3⟩ := h
  exact ⟨undef, w', G', .inr ⟨by simp [h1], rfl⟩, h2, h3, rep_und⟩
theorem SimV.same {s : Sem Value} {u : Value} (hW : WRel n0 w0 G H w) (hs : s.run P w = .ok u w) (hv : Rep G v u) : SimV P s w n0 w0 G v H := ⟨u, w, G, hs, Gh.le.refl _, hW, hv⟩

theorem cells_cell {b : Nat} {C : Array Value} {ty : TypeId} {fr : Nat × Nat} (h : w.heap[b]? = some (.cells C ty fr)) (i : Nat) : w.cell? ⟨b, i, none⟩ = C[i]? := by
  unfold World.cell?
  rw [h]
  simp

theorem addr_add (b k i : Nat) : (⟨b, k, none⟩ : Addr).add i = ⟨b, k + i, none⟩ := by
  unfold Addr.add; split <;> simp_all

/-- Loading. -/
theorem sim_load {t : TypeId} {n : Option Nat} (hn : aggN P t = some n) (hW : WRel n0 w0 G H w) {a : AV} {va : Value} (ha : Rep G a va) (h : loadFrom H a n = some v) : ∃ ad u, va = .pointer (some ad) ∧ (loadVar t ad).run P w = .ok u w ∧ Rep G v u := by
  unfold loadFrom at h
  split at h
  · rename_i o g k
    obtain ⟨b, s, e, hl, rfl⟩ := ha.ptr'
    split at h
    · rename_i ty g' fz cs hx
      split at h
      · rename_i hg
        subst hg
        obtain ⟨b', s', e', C, fr, h1, h2, h3, h4, h5, h6, h7, h8⟩ := hW.obj o _ hx
        rw [hl] at h1
        cases h1
        split at h
        · obtain ⟨hk, rfl⟩ := List.getElem?_eq_some_iff.1 h
          refine ⟨_, C[s + k]'(by omega), rfl, ?_, h6 k hk _⟩
          simp only [loadVar, Sem.run_bind, aggN_none hn, Result.andThen_ok, Bool.false_eq_true, if_false, run_load, cells_cell h3]
          rw [Array.getElem?_eq_getElem (by omega)]
        · rename_i m
          split at h
          · rename_i hm
            cases h
            obtain ⟨r1, r2⟩ := aggN_some hn w
            refine ⟨_, .agg ((C.toList.drop (s + k)).take m).toArray, rfl, ?_, .agg (by simp; omega) fun i hi hi' => ?_⟩
            · simp only [loadVar, Sem.run_bind, r1, r2, Result.andThen_ok, if_true]
              have := run_loadCells_list (P := P) (w := w) ⟨b, s + k, none⟩ ((C.toList.drop (s + k)).take m) (fun j v hv => by
                rw [addr_add, cells_cell h3]
                rw [List.getElem?_take] at hv
                split at hv
                · rw [List.getElem?_drop] at hv
                  simpa using hv
                · cases hv)
              have hlen : ((C.toList.drop (s + k)).take m).length = m := by simp; omega
              rw [hlen] at this
              rw [this]
              rfl
            · simp only [List.getElem_take, List.getElem_drop]
              have := h6 (k + i) (by simp at hi; omega) (by simp at hi; omega)
              simpa [Nat.add_assoc] using this
          · cases h
      · cases h
    · cases h
  · rename_i cs
    obtain ⟨b, k, us, rfl, h1, h2⟩ := ha.ip'
    split at h
    · obtain ⟨u, hu, hr⟩ := h1.get? h
      obtain ⟨hk, rfl⟩ := List.getElem?_eq_some_iff.1 hu
      refine ⟨_, _, rfl, ?_, hr⟩
      have := hW.mem _ _ _ (h2 0 hk)
      simp only [loadVar, Sem.run_bind, aggN_none hn, Result.andThen_ok, Bool.false_eq_true, if_false, run_load]
      rw [show k = k + 0 from rfl, this]
    · rename_i m
      split at h
      · rename_i hm
        cases h
        obtain ⟨r1, r2⟩ := aggN_some hn w
        refine ⟨_, .agg (us.take m).toArray, rfl, ?_, .agg (by have := h1.1; simp; omega) fun i hi hi' => ?_⟩
        · simp only [loadVar, Sem.run_bind, r1, r2, Result.andThen_ok, if_true]
          have := run_loadCells_list (P := P) (w := w) ⟨b, k, none⟩ (us.take m) (fun j v hv => by
            rw [addr_add]
            rw [List.getElem?_take] at hv
            split at hv
            · obtain ⟨hj, rfl⟩ := List.getElem?_eq_some_iff.1 hv
              exact hW.mem _ _ _ (h2 j hj)
            · cases hv)
          have hlen : (us.take m).length = m := by have := h1.1; simp; omega
          rw [hlen] at this
          rw [this]
          rfl
        · simp only [List.getElem_take]
          exact h1.2 _ _ _
      · cases h
  · cases h

theorem simv_load {t : TypeId} {n : Option Nat} (hn : aggN P t = some n) (hW : WRel n0 w0 G H w) {a : AV} {va : Value} (ha : Rep G a va) (h : loadFrom H a n = some v) : SimV P (Instr.loadAt t va) w n0 w0 G v H := by
  obtain ⟨ad, u, rfl, h1, h2⟩ := sim_load hn hW ha h
  exact .same hW (by simp only [Instr.loadAt, Instr.sureAddr, Sem.run_bind, Sem.run_pure, Result.andThen_ok]; exact h1) h2

theorem simu_store {t : TypeId} {n : Nat} (hn : sizeN P t = some n) (hW : WRel n0 w0 G H w) {a x : AV} {va vx : Value} (ha : Rep G a va) (hx : Rep G x vx) (h : storeTo H a n x.cells = some H') : SimU P (Instr.storeAt t va vx) w n0 w0 G H' := by
  obtain ⟨ad, w', rfl, h1, h2, h3⟩ := sim_storeTo P hW h ha hx.cells
  refine ⟨w', G, ?_, Gh.le.refl _, h3⟩
  have hs : vx.cells.size = n := by have := hx.cells.1; simp at this; omega
  simp only [Instr.storeAt, Instr.sureAddr, storeVar, Sem.run_bind, Sem.run_pure, Result.andThen_ok, run_sizeOf' hn, hs, ne_eq, not_true, if_false]
  exact h2

theorem simv_alloc {t : TypeId} {z : List AV} (hz : zeroC P t = some z) (hW : WRel n0 w0 G H w) (hF : Free n0 G H) : SimV P (Instr.alloc t true (.tuple #[])) w n0 w0 G (.ptr H.n 0 0) (H.push (.cells t 0 0 z)) := by
  obtain ⟨u, h1, h2⟩ := zeroC_run hz w
  obtain ⟨g1, g2⟩ := hW.push_cells hF (cs := z) (C := u.cells) (ty := t) (by have := h2.1; simp at this; omega) (fun i hi hi' => by have := h2.2 i hi (by simpa using hi'); simpa using this)
  refine ⟨.pointer (some ⟨w.heap.size, 0, none⟩), _, _, ?_, g1, g2, ?_⟩
  · simp only [Instr.alloc, Sem.run_bind, h1, Result.andThen_ok, newVar, newRow, run_newObj, Sem.run_pure]
    rfl
  · exact .ptr (e := u.cells.size) (by simp [Gh.withLoc])

theorem simv_box {t : TypeId} {x : AV} {vx : Value} (hW : WRel n0 w0 G H w) (hF : Free n0 G H) (hx : Rep G x vx) : SimV P (Instr.box t vx) w n0 w0 G (.ptr H.n 0 0) (H.push (.cells t 0 0 x.cells)) := by
  have h2 := hx.cells
  obtain ⟨g1, g2⟩ := hW.push_cells hF (cs := x.cells) (C := vx.cells) (ty := t) (by have := h2.1; simp at this; omega) (fun i hi hi' => by have := h2.2 i hi (by simpa using hi'); simpa using this)
  refine ⟨.pointer (some ⟨w.heap.size, 0, none⟩), _, _, ?_, g1, g2, ?_⟩
  · simp only [Instr.box, Sem.run_bind, Result.andThen_ok, newVar, newRow, run_newObj, Sem.run_pure]
    rfl
  · exact .ptr (e := vx.cells.size) (by simp [Gh.withLoc])

/-! ### Parts laid into cells -/
theorem foldl_put (cs : List Value) (off : Nat) : ∀ (k : Nat) (C : Array Value), (cs.zipIdx k).foldl (fun cs (c, j) => cs.setIfInBounds (off + j) c) C = putAt C (off + k) cs := by
  induction cs with
  | nil => intro k C; rfl
  | cons c cs ih => intro k C; simp only [List.zipIdx_cons, List.foldl_cons, putAt]; rw [ih]; rfl

theorem reps_splice {cs new : List AV} {C : Array Value} {vs : List Value} {off : Nat} (h : Reps G cs C.toList) (hn : Reps G new vs) (ho : off + new.length ≤ cs.length) : Reps G (splice cs off new) (putAt C off vs).toList := by
  have hl := h.1
  have hnl := hn.1
  simp at hl
  refine ⟨by rw [splice_length _ _ _ ho]; simp [putAt_size, hl], fun i hi hi' => ?_⟩
  have hi2 : i < cs.length := by rw [splice_length _ _ _ ho] at hi; exact hi
  have l1 := splice_get cs off new ho i
  have l2 := putAt_get vs C off i (by omega)
  rw [List.getElem?_eq_getElem hi] at l1
  have hi3 : i < (putAt C off vs).size := by simpa using hi'
  rw [Array.getElem?_eq_getElem hi3] at l2
  have e3 : (putAt C off vs).toList[i] = (putAt C off vs)[i] := by simp
  rw [e3]
  by_cases hin : off ≤ i ∧ i < off + new.length
  · rw [if_pos hin, List.getElem?_eq_getElem (by omega)] at l1
    rw [if_pos (by omega), List.getElem?_eq_getElem (by omega)] at l2
    rw [Option.some.inj l1, Option.some.inj l2]
    exact hn.2 _ _ _
  · rw [if_neg hin, List.getElem?_eq_getElem hi2] at l1
    rw [if_neg (by omega), Array.getElem?_eq_getElem (by omega)] at l2
    rw [Option.some.inj l1, Option.some.inj l2]
    have := h.2 i hi2 (by simp; omega)
    simpa using this

theorem sim_fill {place : Nat → Option (Nat × Nat)} : ∀ (ps : List (Nat × Nat × AV)) (qs : List (Nat × Value)) (cs cs' : List AV) (C : Array Value), ps.length = qs.length →
    (∀ i (h : i < ps.length) (h' : i < qs.length), place qs[i].1 = some (ps[i].1, ps[i].2.1) ∧ Rep G ps[i].2.2 qs[i].2) → Reps G cs C.toList → afill cs ps = some cs' → ∃ C', Instr.fill place C qs = some C' ∧ Reps G cs' C'.toList := by
  intro ps
  induction ps with
  | nil =>
    intro qs cs cs' C hl _ hc h
    cases qs with
    | nil => simp only [afill] at h; cases h; exact ⟨C, rfl, hc⟩
    | cons => simp at hl
  | cons p ps ih =>
    intro qs cs cs' C hl hp hc h
    obtain ⟨off, size, x⟩ := p
    cases qs with
    | nil => simp at hl
    | cons q qs =>
      obtain ⟨j, u⟩ := q
      simp only [afill] at h
      split at h
      · rename_i hs
        obtain ⟨h1, h2⟩ := hp 0 (by simp) (by simp)
        simp only [List.getElem_cons_zero] at h1 h2
        have hx := h2.cells
        have hxl := hx.1
        have hcl := hc.1
        simp at hxl hcl
        obtain ⟨C', e1, e2⟩ := ih qs _ cs' (putAt C off u.cells.toList) (by simpa using hl) (fun i hi hi' => by
          have := hp (i + 1) (by simpa using hi) (by simpa using hi')
          simpa using this) (reps_splice hc hx (by omega)) h
        refine ⟨C', ?_, e2⟩
        simp only [Instr.fill, h1]
        have c1 : ¬ (u.cells.size ≠ size || decide (off + u.cells.size > C.size)) = true := by simp; omega
        have c1' : (decide (u.cells.size ≠ size) || decide (off + u.cells.size > C.size)) = false := by simpa using c1
        simp only [c1', Bool.false_eq_true, if_false]
        have c2 : Array.foldl (fun cs (x : Value × Nat) => cs.setIfInBounds (off + x.2) x.1) C u.cells.zipIdx = putAt C off u.cells.toList := by
          rw [← Array.foldl_toList, Array.toList_zipIdx]
          exact foldl_put _ _ 0 _
        rw [show (Array.foldl (fun cs (x : Value × Nat) => match x with | (c, j) => cs.setIfInBounds (off + j) c) C u.cells.zipIdx) = putAt C off u.cells.toList from c2]
        exact e1
      · cases h

theorem run_mapM_list {α β : Type} (f : α → Sem β) (g : α → β) (w : World) : ∀ (l : List α), (∀ x ∈ l, (f x).run P w = .ok (g x) w) → (l.mapM f).run P w = .ok (l.map g) w := by
  intro l
  induction l with
  | nil => intro _; rfl
  | cons x l ih =>
    intro h
    simp [List.mapM_cons, h x (List.mem_cons_self), ih (fun y hy => h y (List.mem_cons_of_mem _ hy))]

theorem run_places {fs : Array Field} (h : fs.toList.all (fun f => (sizeN P f.type).isSome) = true) (w : World) :
    (fs.mapM fun f => do pure (f.offset, ← sizeOf f.type) : Sem (Array (Nat × Nat))).run P w = .ok ((fs.toList.map fun f => (f.offset, (sizeN P f.type).getD 0)).toArray) w := by
  rw [Array.mapM_eq_mapM_toList]
  simp only [Sem.run_map]
  rw [run_mapM_list _ (fun f => (f.offset, (sizeN P f.type).getD 0))]
  · rfl
  · intro f hf
    have := List.all_eq_true.1 h f hf
    cases hs : sizeN P f.type with
    | none => simp [hs] at this
    | some n => simp [run_sizeOf' hs]

theorem structParts_spec {fs : Array Field} : ∀ (l : List (Nat × Operand)) (ps : List (Nat × Nat × Operand)), structParts P fs l = some ps → ps.length = l.length ∧
    ∀ i (h : i < l.length) (h' : i < ps.length), (((fs.toList.map fun f => (f.offset, (sizeN P f.type).getD 0)).toArray)[l[i].1]?) = some (ps[i].1, ps[i].2.1) ∧ ps[i].2.2 = l[i].2 := by
  intro l
  induction l with
  | nil => intro ps h; simp only [structParts] at h; cases h; exact ⟨rfl, fun i h => absurd h (Nat.not_lt_zero _)⟩
  | cons p l ih =>
    intro ps h
    obtain ⟨j, x⟩ := p
    simp only [structParts] at h
    split at h
    · rename_i f hf
      split at h
      · rename_i s r hs hr
        cases h
        obtain ⟨h1, h2⟩ := ih _ hr
        refine ⟨by simp [h1], fun i hi hi' => ?_⟩
        cases i with
        | zero =>
          simp only [List.getElem_cons_zero, and_true]
          have : fs.toList[j]? = some f := by simpa using hf
          simp [this, hs]
        | succ i => exact h2 i (by simpa using hi) (by simpa using hi')
      · cases h
    · cases h

theorem simv_build_struct {t : TypeId} {fs : Array Field} {z : List AV} {parts : Array (Nat × Operand)} {ps : List (Nat × Nat × Operand)} (ht : P.underlying t = some (.struct fs)) (hz : zeroC P t = some z)
    (hf : fs.toList.all (fun f => (sizeN P f.type).isSome) = true) (hp : structParts P fs parts.toList = some ps) (hE : ∀ x ∈ parts.toList, Rep G (evalO σ x.2) (ρ x.2)) (hW : WRel n0 w0 G H w) {cs : List AV}
    (h : afill z (ps.map fun (o, s, x) => (o, s, evalO σ x)) = some cs) : SimV P (Instr.build t (parts.map fun (i, x) => (i, ρ x))) w n0 w0 G (.agg cs) H := by
  obtain ⟨u, h1, h2⟩ := zeroC_run hz w
  obtain ⟨e1, e2⟩ := structParts_spec _ _ hp
  obtain ⟨C', c1, c2⟩ := sim_fill (G := G) (place := (((fs.toList.map fun f => (f.offset, (sizeN P f.type).getD 0)).toArray)[·]?)) (ps.map fun (o, s, x) => (o, s, evalO σ x)) (parts.toList.map fun q => (q.1, ρ q.2)) z cs u.cells (by simp [e1]) (fun i hi hi' => by
    simp only [List.length_map] at hi hi'
    obtain ⟨g1, g2⟩ := e2 i hi' hi
    simp only [List.getElem_map]
    refine ⟨g1, ?_⟩
    rw [g2]
    exact hE _ (List.getElem_mem _)) h2 h
  have : SimV P (Instr.build t (parts.map fun (i, x) => (i, ρ x))) w n0 w0 G (.agg cs) H := by
    refine .same hW (u := .agg C'.toList.toArray) ?_ (.agg c2.1 c2.2)
    simp only [Instr.build, Sem.run_bind, h1, run_underlying' ht, Result.andThen_ok, run_places hf]
    rw [Array.toList_map]
    rw [c1]
    simp
  exact this

theorem simv_build_array {t e : TypeId} {n sz : Nat} {z : List AV} {parts : Array (Nat × Operand)} (ht : P.underlying t = some (.array n e)) (hz : zeroC P t = some z) (hs : sizeN P e = some sz)
    (hE : ∀ x ∈ parts.toList, Rep G (evalO σ x.2) (ρ x.2)) (hW : WRel n0 w0 G H w) {cs : List AV}
    (h : afill z ((parts.toList.map fun (i, x) => (i * sz, sz, x)).map fun (o, s, x) => (o, s, evalO σ x)) = some cs) : SimV P (Instr.build t (parts.map fun (i, x) => (i, ρ x))) w n0 w0 G (.agg cs) H := by
  obtain ⟨u, h1, h2⟩ := zeroC_run hz w
  obtain ⟨C', c1, c2⟩ := sim_fill (G := G) (place := fun i => some (i * sz, sz)) _ (parts.toList.map fun q => (q.1, ρ q.2)) z cs u.cells (by simp) (fun i hi hi' => by
    simp only [List.length_map] at hi hi'
    simp only [List.getElem_map, true_and]
    exact hE _ (List.getElem_mem _)) h2 h
  refine .same hW (u := .agg C'.toList.toArray) ?_ (.agg c2.1 c2.2)
  simp only [Instr.build, Sem.run_bind, h1, run_underlying' ht, Result.andThen_ok, run_sizeOf' hs]
  rw [Array.toList_map]
  rw [c1]
  simp

theorem afill_length : ∀ (ps : List (Nat × Nat × AV)) (cs cs' : List AV), afill cs ps = some cs' → cs'.length = cs.length := by
  intro ps
  induction ps with
  | nil => intro cs cs' h; simp only [afill] at h; cases h; rfl
  | cons p ps ih =>
    intro cs cs' h
    obtain ⟨off, size, x⟩ := p
    simp only [afill] at h
    split at h
    · rename_i hs
      rw [ih _ _ h, splice_length _ _ _ (by omega)]
    · cases h

theorem unflat_cells {cs : List AV} (h : cs.all AV.one = true ∨ cs.length ≠ 1) : (unflat cs).cells = cs := by
  unfold unflat
  split
  · rename_i x
    rcases h with h | h
    · cases x <;> simp_all [AV.cells, AV.one]
    · simp at h
  · rfl

theorem chunk_flat (sz : Nat) : ∀ (n : Nat) (cs : List AV), cs.length = n * sz → (cs.all AV.one = true ∨ sz ≠ 1) → flat (chunk sz n cs) = cs ∧ ∀ x ∈ chunk sz n cs, x.cells.length = sz := by
  intro n
  induction n with
  | zero => intro cs h _; simp at h; subst h; exact ⟨rfl, fun x hx => by cases hx⟩
  | succ n ih =>
    intro cs h h1
    have hl : cs.length = n * sz + sz := by rw [h, Nat.succ_mul]
    have ht : (cs.take sz).length = sz := by simp; omega
    obtain ⟨a, b⟩ := ih (cs.drop sz) (by simp; omega) (h1.imp (fun h => by
      rw [List.all_eq_true] at *
      exact fun x hx => h x (List.mem_of_mem_drop hx)) id)
    have hu : (unflat (cs.take sz)).cells = cs.take sz := unflat_cells (h1.imp (fun h => by
      rw [List.all_eq_true] at *
      exact fun x hx => h x (List.mem_of_mem_take hx)) (fun h => by rw [ht]; exact h))
    refine ⟨?_, fun x hx => ?_⟩
    · simp only [chunk, flat, List.flatMap_cons, hu]
      have : List.flatMap AV.cells (chunk sz n (cs.drop sz)) = cs.drop sz := a
      rw [this, List.take_append_drop]
    · simp only [chunk, List.mem_cons] at hx
      rcases hx with rfl | hx
      · rw [hu, ht]
      · exact b x hx

theorem chunk_length (sz : Nat) : ∀ (n : Nat) (cs : List AV), (chunk sz n cs).length = n := by
  intro n
  induction n with
  | zero => intro cs; rfl
  | succ n ih => intro cs; simp [chunk, ih]

end Go.Abs
