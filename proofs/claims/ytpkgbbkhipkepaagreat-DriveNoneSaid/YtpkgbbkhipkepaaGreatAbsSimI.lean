/-
  EACH OPERATION OF THE ABSTRACT MACHINE STANDS FOR THE MODEL's: part I: append, as a whole.
-/
import Derived.Test.YtpkgbbkhipkepaaGreatAbsSimH
namespace Go.Abs
open Go.RowKit

variable {P : Program} {n0 : Fr P} {w0 : World} {G : Gh} {H H' : AH} {w : World} {σ : List AV} {ρ : Operand → Value} {v : AV}

/-- What an append does, where a row must be made anew: 'old' are the cells that the slice has. -/
structure App (P : Program) (w : World) (t u e ty : TypeId) (i : TypeInfo) (vx : Value) (ys : List AV) (G : Gh) : Prop where
  ht : P.underlying t = some (.slice e)
  hu : ∃ d, P.underlying u = some d ∧ ∀ k, d ≠ .int k
  hi : P.info? e = some i
  items : ∀ w', w'.heap = w.heap → ∃ us, (Builtin.lenOf vx).run P w' = .ok ys.length w' ∧ (Builtin.firstCells i.size ys.length vx).run P w' = .ok us.toArray w' ∧ Reps G (flat ys) us

theorem put_refl (b : Nat) (w : World) : Put b w w := ⟨rfl, rfl, rfl, rfl, fun _ _ => rfl⟩

theorem below_drew_alloc (w : World) (x : Obj) : Below w.heap.size w (w.drew.alloc x) := ((Below.refl _ _).drew).alloc (Nat.le_refl _) x

/-- The elements of the result. -/
theorem rep_appended {G' : Gh} {tk : Tk} {sz : Nat} {xs ys : List AV} {us vs : List Value} {b k cap : Nat} (h1 : Reps G' (flat xs) us) (h2 : Reps G' (flat ys) vs) (hx : ∀ x ∈ xs, x.cells.length = sz) (hy : ∀ y ∈ ys, y.cells.length = sz)
    (hm : ∀ i (h : i < (us ++ vs).length), G'.mem b (k + i) = some (us ++ vs)[i]) (hc : xs.length + ys.length ≤ cap) (ht : tkOk G' tk b k (xs.length + ys.length) cap sz) :
    Rep G' (.sl tk sz (xs ++ ys)) (.slice (some ⟨b, k, none⟩) (xs.length + ys.length) cap) := by
  have hf : flat (xs ++ ys) = flat xs ++ flat ys := by simp [flat]
  have hr := h1.append h2
  have := Rep.sl (G := G') (t := tk) (sz := sz) (xs := xs ++ ys) (us := us ++ vs) (b := b) (k := k) (cap := cap) (by rw [hf]; exact hr.1) (fun x hx' => by
    rcases List.mem_append.1 hx' with h | h
    · exact hx x h
    · exact hy x h) (fun i hi hi' => by simp only [hf]; exact hr.2 i (by rw [hf] at hi; exact hi) hi') hm (by simpa using hc) (by simpa using ht)
  simpa using this

/-- A new row, the elements of two lists: by value or by reference. -/
theorem app_fresh {t u e ty : TypeId} {i : TypeInfo} {vx : Value} {xs ys : List AV} {a : Option Addr} {sCap : Nat} (hA : App P w t u e ty i vx ys G) (_hW : WRel n0 w0 G H w) (_hsize : 1 ≤ i.size) (hz : (P.info? e).bind (·.zero) ≠ none)
    (hx : ∀ x ∈ xs, x.cells.length = i.size) (hy : ∀ y ∈ ys, y.cells.length = i.size) (hbig : sCap < xs.length + ys.length) (hr : okRoom (xs.length + ys.length) i.bytes = true)
    (hold : ∃ us, (Builtin.firstCells i.size xs.length (.slice a xs.length sCap)).run P w.drew = .ok us.toArray w.drew ∧ Reps G (flat xs) us) :
    ∃ (cap : Nat) (C : Array Value) (us vs : List Value), xs.length + ys.length ≤ cap ∧ Reps G (flat xs) us ∧ Reps G (flat ys) vs ∧ (xs.length + ys.length) * i.size ≤ C.size ∧ (∀ j (h : j < (us ++ vs).length), C[j]? = some (us ++ vs)[j]) ∧
      (us ++ vs).length = (xs.length + ys.length) * i.size ∧ (cap = 0 ∨ cap * i.size ≤ C.size ∨ True) ∧ 
      (Builtin.append_ #[t, u] ty #[.slice a xs.length sCap, vx]).run P w = .ok (.slice (some ⟨w.heap.size, 0, none⟩) (xs.length + ys.length) cap) (w.drew.alloc (.cells C e)) ∧ (∀ z, (P.info? e).bind (·.zero) = some z → z.cells.size = i.size → C.size = cap * i.size) := by
  obtain ⟨us, ho, hru⟩ := hold
  obtain ⟨vs, hl, hn, hrv⟩ := hA.items w rfl
  obtain ⟨vs', hl', hn', hrv'⟩ := hA.items w.drew rfl
  obtain ⟨d, hd1, hd2⟩ := hA.hu
  cases hzz : (P.info? e).bind (·.zero) with
  | none => exact absurd hzz hz
  | some z =>
    obtain ⟨cap, rest, c1, c2, c3⟩ := run_append_new (ty := ty) (a := a) hA.ht hd1 hd2 hA.hi (run_zero' hzz w.drew) hl hbig hr ho hn'
    have hlu : us.length = xs.length * i.size := by rw [← hru.1, flat_len _ hx]
    have hlv : vs'.length = ys.length * i.size := by rw [← hrv'.1, flat_len _ hy]
    have hmul : (xs.length + ys.length) * i.size = xs.length * i.size + ys.length * i.size := Nat.add_mul _ _ _
    refine ⟨cap, (us ++ vs' ++ rest).toArray, us, vs', c1, hru, hrv', by simp; omega, fun j hj => ?_, by simp; omega, .inr (.inr trivial), c3, fun z' hz' hzs => ?_⟩
    · simp only [List.getElem?_toArray]
      rw [List.getElem?_append_left hj, List.getElem?_eq_getElem hj]
    · cases hz'
      rw [hzs] at c2
      have : (cap - (xs.length + ys.length)) * i.size + (xs.length + ys.length) * i.size = cap * i.size := by rw [← Nat.add_mul]; congr 1; omega
      simp only [List.size_toArray, List.length_append]
      omega

theorem simv_aappend {ref : Bool} {t u e ty : TypeId} {i : TypeInfo} {x : AV} {vx vy : Value} {ys : List AV} {z : Value} (hA : App P w t u e ty i vy ys G) (hsize : 1 ≤ i.size) (hz : (P.info? e).bind (·.zero) = some z) (hzs : z.cells.size = i.size)
    (hx : Rep G x vx) (hW : WRel n0 w0 G H w) (hF : Free n0 G H) (h : aappend H ref e i.size i.bytes x ys = some (v, H')) : SimV P (Builtin.append_ #[t, u] ty #[vx, vy]) w n0 w0 G v H' := by
  unfold aappend at h
  split at h
  · rename_i hall
    have hy : ∀ y ∈ ys, y.cells.length = i.size := fun y hy => by
      have := List.all_eq_true.1 hall y hy
      simp only [Bool.and_eq_true, beq_iff_eq] at this
      exact this.1
    have hone : ∀ y ∈ ys, y.cells.all AV.one = true := fun y hy => by
      have := List.all_eq_true.1 hall y hy
      simp only [Bool.and_eq_true, beq_iff_eq] at this
      exact this.2
    obtain ⟨d, hd1, hd2⟩ := hA.hu
    have nothing : ∀ (a : Option Addr) (n c : Nat), ys = [] → n ≤ c → vx = .slice a n c → (Builtin.append_ #[t, u] ty #[vx, vy]).run P w = .ok vx w := by
      intro a n c h0 hnc hv
      subst h0
      subst hv
      obtain ⟨us, i1, i2, i3⟩ := hA.items w rfl
      have : us = [] := by have := i3.1; simpa [flat] using this.symm
      subst this
      exact run_append_none hA.ht hd1 hd2 hA.hi i1 hnc i2
    -- a row is made anew
    have fresh : ∀ (xs : List AV) (a : Option Addr) (n sCap : Nat), vx = .slice a n sCap → n = xs.length → n = sCap → (∀ x ∈ xs, x.cells.length = i.size) → (∃ us, (Builtin.firstCells i.size n (.slice a n sCap)).run P w.drew = .ok us.toArray w.drew ∧ Reps G (flat xs) us) →
        aappend.fresh H ref e i.size i.bytes x ys xs = some (v, H') → SimV P (Builtin.append_ #[t, u] ty #[vx, vy]) w n0 w0 G v H' := by
      intro xs a n sCap hv hn hc hxs hold hf
      unfold aappend.fresh at hf
      split at hf
      · cases hf
        exact .same hW (nothing a n sCap rfl (by omega) hv) hx
      · rename_i hne
        split at hf
        · rename_i hroom
          have hlen : 0 < ys.length := by
            cases hys : ys with
            | nil => exact absurd hys hne
            | cons => simp
          subst hv
          subst hn
          obtain ⟨cap, C, us, vs, f1, f2, f3, f4, f5, f6, _, f7, f8⟩ := app_fresh (a := a) hA hW hsize (by rw [hz]; simp) hxs hy (sCap := sCap) (by omega) hroom hold
          have hCs := f8 z hz hzs
          have hWd := hW.drew
          split at hf
          · cases hf
            have hfl : (flat (xs ++ ys)).length = (xs.length + ys.length) * i.size := by
              rw [flat_len (sz := i.size)]
              · simp
              · intro x hx
                rcases List.mem_append.1 hx with h | h
                · exact hxs x h
                · exact hy x h
            obtain ⟨g1, g2⟩ := hWd.push_cells hF (cs := flat (xs ++ ys)) (C := C) (ty := e) (by omega) (fun j hj hj' => by
              have e1 : flat (xs ++ ys) = flat xs ++ flat ys := by simp [flat]
              have e2 := f5 j (by omega)
              rw [Array.getElem?_eq_getElem hj'] at e2
              rw [Option.some.inj e2]
              simp only [e1]
              exact (f2.append f3).2 j _ _)
            refine ⟨_, _, _, f7, g1, g2, ?_⟩
            have := Rep.rs (G := G.withLoc H.n 0 (w.drew.heap.size, 0, C.size)) (o := H.n) (g := 0) (sz := i.size) (off := 0) (len := xs.length + ys.length) (b := w.heap.size) (s := 0) (e := C.size) (cap := cap) (by simp [Gh.withLoc]) f1 (by simp; omega)
            simpa using this
          · cases hf
            obtain ⟨g1, g2⟩ := hWd.push_tok hF C e ((xs.length + ys.length) * i.size) f4 (w' := w.drew.alloc (.cells C e)) (below_alloc _ _) (fr := (0, 0)) (heap_alloc_new _ _) (by intro k _ _; simp) (some ((xs.length + ys.length) * i.size)) (by intro x hx; cases hx; exact ⟨rfl, .inl rfl⟩)
            refine ⟨_, _, _, f7, g1, g2, ?_⟩
            refine rep_appended (f2.mono g1) (f3.mono g1) hxs hy (fun j hj => ?_) f1 ?_
            · show (G.withMem w.heap.size _ C).mem w.heap.size (0 + j) = _
              simp only [Gh.withMem]
              rw [if_pos ⟨trivial, by omega⟩, Nat.zero_add]
              exact f5 j hj
            · right
              simp [Gh.withTk, hCs]
        · cases hf
    cases x with
    | lit lv =>
      split at h
      · rename_i hlv
        have hv := (hx.lit').1
        cases hlv
        exact fresh [] none 0 0 hv rfl rfl (fun x hx => by cases hx) ⟨[], rfl, Reps.nil⟩ h
      · rename_i hlv; cases hlv
      · rename_i hlv; cases hlv
      · rename_i hlv; cases hlv
      · rename_i hlv; cases hlv
      · rename_i hlv; cases hlv
      · cases h
    | sl tt sz' xs =>
      obtain ⟨b, k, cap, us, hv, h1, h2, h3, h4, h5⟩ := hx.sl'
      cases tt with
      | full =>
        simp only at h
        split at h
        · rename_i hsz
          subst hsz
          cases h5
          exact fresh xs _ _ _ hv rfl rfl h2 ⟨us, run_cells (by rw [← h1.1, flat_len _ h2]) (fun j hj => ⟨rfl, hW.drew.mem _ _ _ (h3 j hj)⟩), h1⟩ h
        · cases h
      | lit =>
        simp only at h
        split at h
        · rename_i hsz
          subst hsz
          obtain ⟨h5, _⟩ := h5
          cases h5
          exact fresh xs _ _ _ hv rfl rfl h2 ⟨us, run_cells (by rw [← h1.1, flat_len _ h2]) (fun j hj => ⟨rfl, hW.drew.mem _ _ _ (h3 j hj)⟩), h1⟩ h
        · cases h
      | no =>
        simp only at h
        cases hys : ys with
        | nil =>
          simp only [hys] at h
          cases h
          exact .same hW (nothing _ _ _ hys h4 hv) hx
        | cons => simp [hys] at h
      | t tk =>
        simp only at h
        by_cases hys : ys = []
        · have hh : v = .sl (.t tk) sz' xs ∧ H' = H := by
            rw [hys] at h
            cases ref <;> cases hb : (i.size == sz') <;> simp [hb] at h
            exact ⟨h.1.symm, h.2.symm⟩
          obtain ⟨rfl, rfl⟩ := hh
          exact .same hW (nothing _ _ _ hys h4 hv) hx
        · have hh : ∃ ty' e0, i.size = sz' ∧ H.get tk = some (.tok ty' e0) ∧ e = ty' ∧ okRoom (xs.length + ys.length) i.bytes = true ∧ v = .sl (.t H.n) i.size (xs ++ ys) ∧
              H' = (H.set tk .dead).push (.tok e (if e0 = some (xs.length * i.size) then some ((xs.length + ys.length) * i.size) else none)) := by
            split at h
            · exact absurd rfl hys
            · rename_i hsz _ htk
              split at h
              · rename_i hc
                cases h
                exact ⟨_, _, by simpa using hsz, htk, hc.1, hc.2, rfl, rfl⟩
              · cases h
            · cases h
          obtain ⟨ty', e0, hsz', htk, rfl, hroom, rfl, rfl⟩ := hh
          subst hsz'
          subst hv
          have hlus : us.length = xs.length * i.size := by rw [← h1.1, flat_len _ h2]
          have hkill := hW.kill tk
          obtain ⟨bt, et, ct, Ct, frt, t1, t2, t3, t4, t5, t6, t7, t8⟩ := hW.obj _ _ htk
          by_cases hfit : xs.length + ys.length ≤ cap
          · -- in place
            have hne' : ys ≠ [] := hys
            have h5' : G.tk tk = some (b, k + xs.length * i.size, k + cap * i.size) := by
              rcases h5 with ⟨h5, _⟩ | h5
              · exfalso
                have : 0 < ys.length := List.length_pos_iff.2 hne'
                omega
              · exact h5
            rw [h5'] at t1
            cases t1
            obtain ⟨vs, i1, i2, i3⟩ := hA.items w rfl
            have hlvs : vs.length = ys.length * i.size := by rw [← i3.1, flat_len _ hy]
            have hmul : (xs.length + ys.length) * i.size = xs.length * i.size + ys.length * i.size := Nat.add_mul _ _ _
            have hmc : (xs.length + ys.length) * i.size ≤ cap * i.size := Nat.mul_le_mul_right _ hfit
            obtain ⟨w', s1, s2, s3⟩ := run_storeCells P b (k + xs.length * i.size) _ frt vs 0 Ct w t4 (by omega) (fun j hj hj' => t7 j (by omega) (by omega)) (fun v hv => by
              obtain ⟨j, hj, rfl⟩ := List.getElem_of_mem hv
              refine one_of_rep (i3.2 j (by rw [i3.1]; exact hj) hj) ?_
              have : (flat ys).all AV.one = true := by
                rw [List.all_eq_true]
                intro c hc
                simp only [flat, List.mem_flatMap] at hc
                obtain ⟨y, hy1, hy2⟩ := hc
                exact List.all_eq_true.1 (hone y hy1) c hy2
              exact List.all_eq_true.1 this _ (List.getElem_mem _))
            have hrun := run_append_here (ty := ty) (b := b) (k := k) (sLen := xs.length) (sCap := cap) hA.ht hd1 hd2 hA.hi i1 hfit i2 s1
            have hown : ∀ o y, (H.set tk .dead).get o = some y → blkOf G o y ≠ some b := by
              intro o y hy hb
              rw [AH.get_set] at hy
              split at hy
              · cases hy; simp [blkOf] at hb
              · rename_i hne2
                exact hne2 (hW.sep o tk y _ b hy htk hb (by simp [blkOf, h5']))
            have hlt : ¬ G.lt b := fun hl => (hW.lt b hl).2 tk _ htk (by simp [blkOf, h5'])
            obtain ⟨g1, g2⟩ := hkill.claim (hF) (b := b) (e := k + xs.length * i.size) (e2 := k + (xs.length + ys.length) * i.size) (c := k + cap * i.size) (C := Ct) (C' := putAt Ct (k + xs.length * i.size + 0) vs) (fr := frt) t2 hown hlt s3 t4 s2 (fun j hj => by
              rw [putAt_get _ _ _ _ (by omega), if_neg (by omega)]) t6 (by omega) (by omega) (by rw [putAt_size]; exact t5) (fun j hj hj' => t7 j (by omega) hj') (if e0 = some (xs.length * i.size) then some ((xs.length + ys.length) * i.size) else none) (fun m hm => by
                split at hm
                · rename_i he0
                  cases hm
                  obtain ⟨q1, q2⟩ := t8 _ he0
                  exact ⟨by omega, q2.imp id (fun h => by omega)⟩
                · cases hm)
            refine ⟨_, _, _, hrun, g1, g2, ?_⟩
            refine rep_appended (h1.mono g1) (i3.mono g1) h2 hy (fun j hj => ?_) hfit ?_
            · by_cases hju : j < us.length
              · rw [List.getElem_append_left hju]
                exact g1.mem _ _ _ (h3 j hju)
              · rw [List.getElem_append_right (by omega)]
                show (G.withCells b _ _ _).mem b (k + j) = _
                simp only [List.length_append] at hj
                simp only [Gh.withCells]
                rw [if_pos ⟨trivial, by omega, by omega⟩, putAt_get _ _ _ _ (by omega), if_pos (by omega), List.getElem?_eq_getElem (by omega)]
                congr 2
                omega
            · right
              simp [Gh.withTk, AH.n_set]
          · -- anew
            obtain ⟨cap', C, us', vs, f1, f2, f3, f4, f5, f6, _, f7, f8⟩ := app_fresh (a := some ⟨b, k, none⟩) hA hW hsize (by rw [hz]; simp) h2 hy (sCap := cap) (by omega) hroom ⟨us, run_cells hlus (fun j hj => ⟨rfl, hW.drew.mem _ _ _ (h3 j hj)⟩), h1⟩
            have hCs := f8 z hz hzs
            obtain ⟨g1, g2⟩ := hkill.drew.push_tok (hF) C e ((xs.length + ys.length) * i.size) f4 (w' := w.drew.alloc (.cells C e)) (below_alloc _ _) (fr := (0, 0)) (heap_alloc_new _ _) (by intro k _ _; simp) (if e0 = some (xs.length * i.size) then some ((xs.length + ys.length) * i.size) else none) (by
              intro m hm
              split at hm
              · cases hm; exact ⟨rfl, .inl rfl⟩
              · cases hm)
            refine ⟨_, _, _, f7, g1, g2, ?_⟩
            refine rep_appended (f2.mono g1) (f3.mono g1) h2 hy (fun j hj => ?_) f1 ?_
            · show (G.withMem w.heap.size _ C).mem w.heap.size (0 + j) = _
              simp only [Gh.withMem]
              rw [if_pos ⟨trivial, by omega⟩, Nat.zero_add]
              exact f5 j hj
            · right
              simp [Gh.withTk, hCs, AH.n_set]
    | rs o g sz' off len =>
      simp only at h
      split at h
      · rename_i ty' g' fz cs hg
        split at h
        · rename_i hc
          obtain ⟨rfl, hsz', rfl, rfl, hle, hroom⟩ := hc
          subst hsz'
          cases h
          obtain ⟨b, s, e', C, fr, l1, l2, l3, l4, l5, l6, l7, l8, l9⟩ := hW.obj o _ hg
          have hadd : ∀ a : Nat, (off + a) * i.size = off * i.size + a * i.size := fun a => Nat.add_mul _ _ _
          have hbo : blkOf G o (.cells e g 0 cs) = some b := by simp [blkOf, l1]
          have hlt : ¬ G.lt b := fun hl => (hW.lt b hl).2 o _ hg hbo
          have hcs : ((cs.drop (off * i.size)).take (len * i.size)).length = len * i.size := by have := hadd len; simp; omega
          have hfy : (flat ys).length = ys.length * i.size := flat_len _ hy
          have hmul : (len + ys.length) * i.size = len * i.size + ys.length * i.size := Nat.add_mul _ _ _
          have val : ∃ k cap bb, vx = .slice (some ⟨bb, k, none⟩) len cap ∧ len ≤ cap ∧ ((bb = b ∧ k = s + off * i.size ∧ s + (off + cap) * i.size = e') ∨ (len = 0 ∧ cap = 0)) := by
            cases hx with
            | rs k1 k2 k3 => rw [l1] at k1; cases k1; exact ⟨_, _, _, rfl, k2, .inl ⟨rfl, rfl, k3⟩⟩
            | rs0 => exact ⟨_, _, _, rfl, Nat.le_refl _, .inr ⟨rfl, rfl⟩⟩
          obtain ⟨k, cap, bb, hv, hlc, hval⟩ := val
          by_cases hfit : len + ys.length ≤ cap
          · -- in place
            rcases hval with ⟨rfl, rfl, he'⟩ | ⟨rfl, rfl⟩
            · obtain ⟨vs, i1, i2, i3⟩ := hA.items w rfl
              have hlvs : vs.length = ys.length * i.size := by rw [← i3.1, hfy]
              have hmc : (len + ys.length) * i.size ≤ cap * i.size := Nat.mul_le_mul_right _ hfit
              have hac := hadd cap
              obtain ⟨w', s1, s2, s3⟩ := run_storeCells P bb (s + off * i.size + len * i.size) e fr vs 0 C w l3 (by omega) (fun j hj hj' => l8 j (by omega) (by omega)) (fun v hv => by
                obtain ⟨j, hj, rfl⟩ := List.getElem_of_mem hv
                refine one_of_rep (i3.2 j (by rw [i3.1]; exact hj) hj) ?_
                have : (flat ys).all AV.one = true := by
                  rw [List.all_eq_true]
                  intro c hc
                  simp only [flat, List.mem_flatMap] at hc
                  obtain ⟨y, hy1, hy2⟩ := hc
                  exact List.all_eq_true.1 (hone y hy1) c hy2
                exact List.all_eq_true.1 this _ (List.getElem_mem _))
              have hrun := run_append_here (ty := ty) (b := bb) (k := s + off * i.size) (sLen := len) (sCap := cap) hA.ht hd1 hd2 hA.hi i1 hfit i2 s1
              obtain ⟨g1, g2⟩ := hW.regen hF hg (cs' := (cs.drop (off * i.size)).take (len * i.size) ++ flat ys) (b := bb) (s := s + off * i.size) (e := e') (C' := putAt C (s + off * i.size + len * i.size + 0) vs) (fr := fr) l2 (s3.below l2) (fun b' k v hm => by
                have hne : b' ≠ bb := by rintro rfl; rw [l7] at hm; cases hm
                have := hW.mem _ _ _ hm
                unfold World.cell? at *
                rw [s3.other b' hne]
                exact this) (fun o' x b' hx hne hb => ⟨by rintro rfl; exact hne (hW.sep o' o x _ b' hx hg hb hbo), s3.other b' (by rintro rfl; exact hne (hW.sep o' o x _ b' hx hg hb hbo))⟩) hlt s2 (by rw [putAt_size]; exact l4) (by simp only [List.length_append, hcs, hfy]; omega) (fun j hj hj' => by
                  simp only [List.length_append, hcs, hfy] at hj
                  rw [putAt_size] at hj'
                  have l2' := putAt_get vs C (s + off * i.size + len * i.size + 0) (s + off * i.size + j) (by omega)
                  rw [Array.getElem?_eq_getElem (by rw [putAt_size]; exact hj')] at l2'
                  by_cases hjl : j < len * i.size
                  · rw [if_neg (by omega), Array.getElem?_eq_getElem hj'] at l2'
                    rw [Option.some.inj l2']
                    rw [List.getElem_append_left (by rw [hcs]; exact hjl)]
                    simp only [List.getElem_take, List.getElem_drop]
                    have := l6 (off * i.size + j) (by have := hadd len; omega) (by omega)
                    simpa [Nat.add_assoc] using this
                  · rw [if_pos (by omega), List.getElem?_eq_getElem (by omega)] at l2'
                    rw [Option.some.inj l2']
                    rw [List.getElem_append_right (by rw [hcs]; omega)]
                    have e1 : s + off * i.size + j - (s + off * i.size + len * i.size + 0) = j - len * i.size := by omega
                    simp only [e1, hcs]
                    exact i3.2 _ _ _) l7 (fun j hj hj' => l8 j (by omega) hj')
              subst hv
              refine ⟨_, _, _, hrun, g1, g2, ?_⟩
              have := Rep.rs (G := G.withLoc o (H.n + 1) (bb, s + off * i.size, e')) (o := o) (g := H.n + 1) (sz := i.size) (off := 0) (len := len + ys.length) (b := bb) (s := s + off * i.size) (e := e') (cap := cap) (by simp [Gh.withLoc]) hfit (by simp; omega)
              simpa using this
            · -- nothing, of nothing
              have hys : ys = [] := by
                cases ys with
                | nil => rfl
                | cons => simp at hfit
              obtain ⟨g1, g2⟩ := hW.regen hF hg (cs' := (cs.drop (off * i.size)).take (0 * i.size) ++ flat ys) (b := b) (s := s) (e := e') (C' := C) (fr := fr) l2 (Keeps.refl _ _) hW.mem (fun o' x b' hx hne hb => ⟨by rintro rfl; exact hne (hW.sep o' o x _ b' hx hg hb hbo), rfl⟩) hlt l3 l4 (by rw [hys]; simp [flat]; omega) (fun j hj hj' => by
                rw [hys] at hj; simp [flat] at hj) l7 l8
              refine ⟨_, _, _, nothing _ _ _ hys (Nat.le_refl _) hv, g1, g2, ?_⟩
              rw [hv, hys]
              exact .rs0 (y := (b, s, e')) (by simp [Gh.withLoc])
          · -- anew
            have hlist : ∃ xs : List AV, xs.length = len ∧ (∀ x ∈ xs, x.cells.length = i.size) ∧ flat xs = (cs.drop (off * i.size)).take (len * i.size) := by
              refine ⟨(List.range len).map fun j => .agg ((((cs.drop (off * i.size)).take (len * i.size)).drop (j * i.size)).take i.size), by simp, fun x hx => ?_, ?_⟩
              · simp only [List.mem_map, List.mem_range] at hx
                obtain ⟨j, hj, rfl⟩ := hx
                have hj2 : (j + 1) * i.size ≤ len * i.size := Nat.mul_le_mul_right _ hj
                rw [Nat.add_mul] at hj2
                show (List.take _ _).length = _
                rw [List.length_take, List.length_drop, hcs]
                omega
              · have : ∀ (n : Nat) (ds : List AV), ds.length = n * i.size → flat ((List.range n).map fun j => AV.agg ((ds.drop (j * i.size)).take i.size)) = ds := by
                  intro n
                  induction n with
                  | zero => intro ds hd; simp at hd; subst hd; rfl
                  | succ n ih =>
                    intro ds hd
                    rw [Nat.add_mul] at hd
                    rw [List.range_succ_eq_map, List.map_cons, List.map_map]
                    simp only [flat, List.flatMap_cons]
                    have e1 := ih (ds.drop i.size) (by simp; omega)
                    simp only [flat] at e1
                    have e2 : (fun j => AV.agg ((ds.drop (j * i.size)).take i.size)) ∘ Nat.succ = fun j => AV.agg (((ds.drop i.size).drop (j * i.size)).take i.size) := by
                      funext j
                      simp only [Function.comp, List.drop_drop, Nat.succ_eq_add_one, Nat.add_mul]
                      congr 3
                      omega
                    rw [e2, e1]
                    simp [AV.cells]
                exact this len _ hcs
            obtain ⟨xs, x1, x2, x3⟩ := hlist
            subst x1
            have hold : ∃ us, (Builtin.firstCells i.size xs.length (.slice (some ⟨bb, k, none⟩) xs.length cap)).run P w.drew = .ok us.toArray w.drew ∧ Reps G (flat xs) us := by
              rcases hval with ⟨rfl, rfl, he'⟩ | ⟨h0, rfl⟩
              · refine ⟨(C.toList.drop (s + off * i.size)).take (xs.length * i.size), run_cells ?_ (fun j hj => ⟨rfl, ?_⟩), ?_⟩
                · have := hadd xs.length
                  simp; omega
                · have hj2 : j < xs.length * i.size := by simp at hj; omega
                  have := hadd xs.length
                  show w.cell? _ = _
                  rw [cells_cell l3, Array.getElem?_eq_getElem (show s + off * i.size + j < C.size by omega)]
                  simp
                · rw [x3]
                  have := hadd xs.length
                  refine ⟨by simp; omega, fun j hj hj' => ?_⟩
                  simp only [List.getElem_take, List.getElem_drop]
                  have := l6 (off * i.size + j) (by simp at hj; omega) (by simp at hj; omega)
                  simpa [Nat.add_assoc] using this
              · have : xs = [] := List.length_eq_zero_iff.1 h0
                subst this
                exact ⟨[], by simp [Builtin.firstCells, loadCells, loadCellsFrom], Reps.nil⟩
            obtain ⟨cap', C', us', vs, f1, f2, f3, f4, f5, f6, _, f7, f8⟩ := app_fresh (a := some ⟨bb, k, none⟩) hA hW hsize (by rw [hz]; simp) x2 hy (sCap := cap) (by omega) hroom hold
            have hCs := f8 z hz hzs
            subst hv
            have hnew : ∀ k, G.mem w.heap.size k = none := hW.new_mem
            obtain ⟨g1, g2⟩ := hW.regen hF hg (w' := w.drew.alloc (.cells C' e)) (cs' := (cs.drop (off * i.size)).take (xs.length * i.size) ++ flat ys) (b := w.heap.size) (s := 0) (e := C'.size) (C' := C') (fr := (0, 0)) hW.new (.of_below (below_drew_alloc w _) hW.size) (fun b' k v hm => cell_kept (below_drew_alloc w _) (hW.mem_lt hm) (hW.mem _ _ _ hm)) (fun o' x b' hx hne hb => by
              have := (hW.blk_lt hx hb).2
              exact ⟨by omega, (below_drew_alloc w _).block b' this⟩) (fun hl => by have := (hW.lt _ hl).1.2; omega) (heap_alloc_new w.drew _) (Nat.le_refl _) (by simp only [List.length_append, hcs, hfy]; omega) (fun j hj hj' => by
                simp only [List.length_append, hcs, hfy] at hj
                have e2 := f5 j (by omega)
                simp only [Nat.zero_add] at hj' ⊢
                rw [Array.getElem?_eq_getElem hj'] at e2
                rw [Option.some.inj e2]
                have e3 := (f2.append f3)
                rw [x3] at e3
                exact e3.2 j _ _) hnew (by intro k _ _; simp)
            refine ⟨_, _, _, f7, g1, g2, ?_⟩
            have := Rep.rs (G := G.withLoc o (H.n + 1) (w.heap.size, 0, C'.size)) (o := o) (g := H.n + 1) (sz := i.size) (off := 0) (len := xs.length + ys.length) (b := w.heap.size) (s := 0) (e := C'.size) (cap := cap') (by simp [Gh.withLoc]) f1 (by simp; omega)
            simpa using this
        · cases h
      · cases h
    | _ => cases h
  · cases h

end Go.Abs
