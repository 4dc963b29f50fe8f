/-
  CALLS: the abstract machine's callee simulates the machine's.
-/
import Derived.Test.YtpkgbbkhipkepaaGreatAbsCode
namespace Go.Abs
open Go.RowKit

variable {P : Program} {n0 : Fr P} {w0 : World} {G G0 : Gh} {H H' : AH} {w : World} {σ : List AV} {v : AV}

/-- The results, looked up. -/
def prepRes (P : Program) : List ResultVar → Option (List (Nat × Option (Option Nat)))
  | [] => some []
  | .tmp t :: r => (prepRes P r).map ((t, none) :: ·)
  | .cell a t :: r => match aggN P t, prepRes P r with
    | some n, some l => some ((a, some n) :: l)
    | _, _ => none

/-- A function, looked up. -/
structure FnOk (P : Program) (g : FuncId) (x : AFunc) : Prop where
  ex : ∃ (f : Func) (c : Code) (ann : Nat → Nat → Nat), P.funcs[g]? = some f ∧ f.body = some c ∧ f.name ≠ "runtime.NumGoroutine" ∧ prepCode P ann c = some x.body ∧ x.ntmps = f.ntmps ∧ prepRes P f.results.toList = some x.results

def TabOk (P : Program) (A : FuncId → Option AFunc) : Prop := ∀ g x, A g = some x → FnOk P g x

/-! ### Numbers that are free stay free -/
section
variable {call : Caller}

theorem evalOps_ext (hcall : CallOk P call) : ∀ (l : List AOper) (s s' : ASt), WF s.H → evalOps call l s = some s' → Ext s.H s'.H := by
  intro l
  induction l with
  | nil => intro s s' _ h; cases h; exact Ext.refl _
  | cons o l ih =>
    intro s s' hw h
    simp only [evalOps] at h
    split at h
    · rename_i s1 h1
      have e1 := evalOp_ext hcall hw h1
      exact e1.trans (ih s1 s' (e1.wf hw) h)
    · cases h

theorem ext_slot {H0 : AH} {x : Nat} {y : AObj} (h : Ext H0 H) (h0 : H0.get x = none) (hx : x < H.n) : Ext H0 (H.set x y) := by
  refine ⟨h.n, fun o ho e => ?_, fun o e => ?_⟩
  · rw [AH.n_set] at ho
    rw [AH.get_set, if_neg (by omega)]
    exact h.none o ho e
  · rw [AH.get_set, if_neg]
    · exact h.dead o e
    · rintro rfl; rw [h0] at e; cases e

theorem evalDraw_ext (hcall : CallOk P call) {base : Nat} {H0 : AH} (h0 : ∀ x, base ≤ x → H0.get x = none) : ∀ (l : List AOper) (s s' : ASt) (hist : List AH), WF s.H → Ext H0 s.H → evalDraw call base l s hist = some s' → Ext H0 s'.H := by
  intro l
  induction l with
  | nil => intro s s' hist _ hx h; cases h; exact hx
  | cons o l ih =>
    intro s s' hist hw hx h
    obtain ⟨s1, hist1, v, mk, hst, h2⟩ := evalDraw_step h
    cases hst with
    | chain hc he _ =>
      have e1 := evalOp_ext hcall hw he
      exact ih s1 s' _ (e1.wf hw) (hx.trans e1) h2
    | make hc hm hwn hlt ha =>
      refine ih _ s' _ ?_ ?_ h2
      · exact wf_set hw hlt
      · exact ext_slot hx (h0 _ (by omega)) hlt
    | read =>
      refine ih _ s' _ ?_ ?_ h2
      · exact hw
      · exact hx
    | skip =>
      refine ih _ s' _ ?_ ?_ h2
      · exact hw
      · exact hx

theorem region_ext (hcall : CallOk P call) {L : List AOper} {s s' : ASt} (hw : WF s.H) (h : evalDraw call s.H.n L { s with H := reserve (slots L) s.H } [] = some s') : Ext s.H s'.H := by
  obtain ⟨r1, r2, r3, r4⟩ := reserve_spec (slots L) s.H hw
  have hx : Ext s.H (reserve (slots L) s.H) := by
    refine ⟨by rw [r1]; omega, fun o ho _ => r2 o ho, fun o e => ?_⟩
    rw [r3 o ?_]
    · exact e
    · rcases Nat.lt_or_ge o s.H.n with h | h
      · exact h
      · rw [hw o h] at e; cases e
  exact evalDraw_ext hcall (fun x hx => hw x hx) L _ s' [] r2 hx h

theorem loopA_ext {ev : ASt → Option (AEx × ASt)} (hev : ∀ s s' e, WF s.H → ev s = some (e, s') → Ext s.H s'.H) : ∀ (m : Nat) (s s' : ASt) (e : AEx), WF s.H → loopA ev m s = some (e, s') → Ext s.H s'.H := by
  intro m
  induction m with
  | zero => intro s s' e _ h; cases h
  | succ m ih =>
    intro s s' e hw h
    simp only [loopA] at h
    split at h
    · rename_i s1 h1
      have e1 := hev _ _ _ hw h1
      exact e1.trans (ih s1 s' e (e1.wf hw) h)
    · exact hev _ _ _ hw h

theorem scopeA_ext {has : Nat → Bool} {ev : Option Nat → ASt → Option (AEx × ASt)} (hev : ∀ st s s' e, WF s.H → ev st s = some (e, s') → Ext s.H s'.H) : ∀ (m : Nat) (st : Option Nat) (s s' : ASt) (e : AEx), WF s.H → scopeA has ev m st s = some (e, s') → Ext s.H s'.H := by
  intro m
  induction m with
  | zero => intro st s s' e _ h; cases h
  | succ m ih =>
    intro st s s' e hw h
    simp only [scopeA] at h
    split at h
    · rename_i l s1 h1
      have e1 := hev _ _ _ _ hw h1
      split at h
      · exact e1.trans (ih _ s1 s' e (e1.wf hw) h)
      · cases h; exact e1
    · exact hev _ _ _ _ hw h

theorem evalC_ext (hcall : CallOk P call) {lim : Nat} : ∀ (x : ACode) (st : Option Nat) (s s' : ASt) (e : AEx), WF s.H → evalC call lim x st s = some (e, s') → Ext s.H s'.H := by
  intro x
  induction x with
  | skip =>
    intro st s s' e hw he
    cases st with
    | none => simp only [evalC] at he; cases he; exact Ext.refl _
    | some l => simp only [evalC] at he; cases he
  | region id L d =>
    intro st s s' e hw he
    cases st with
    | some l => simp only [evalC] at he; cases he
    | none =>
      simp only [evalC, Option.map_eq_some_iff] at he
      obtain ⟨s1, he, h2⟩ := he
      cases h2
      cases d with
      | true => simp only [if_true] at he; exact region_ext hcall hw he
      | false => simp only [Bool.false_eq_true, if_false] at he; exact evalOps_ext hcall L s s' hw he
  | seq a b iha ihb =>
    intro st s s' e hw he
    have both : ∀ (st : Option Nat), (match evalC call lim a st s with
        | some (.normal, s') => evalC call lim b none s'
        | r => r) = some (e, s') → Ext s.H s'.H := by
      intro st he
      split at he
      · rename_i s1 h1
        have e1 := iha _ _ _ _ hw h1
        exact e1.trans (ihb _ _ _ _ (e1.wf hw) he)
      · exact iha _ _ _ _ hw he
    cases st with
    | none => simp only [evalC] at he; exact both none he
    | some l =>
      simp only [evalC] at he
      split at he
      · exact both (some l) he
      · exact ihb _ _ _ _ hw he
  | cond c a b iha ihb =>
    intro st s s' e hw he
    cases st with
    | some l => simp only [evalC] at he; cases he
    | none =>
      simp only [evalC] at he
      split at he
      · exact iha _ _ _ _ hw he
      · exact ihb _ _ _ _ hw he
      · cases he
  | block id c ih =>
    intro st s s' e hw he
    cases st with
    | some l => simp only [evalC] at he; cases he
    | none =>
      simp only [evalC] at he
      split at he
      · rename_i id' s1 h1
        have e1 := ih _ _ _ _ hw h1
        split at he <;> cases he <;> exact e1
      · exact ih _ _ _ _ hw he
  | loop c ih =>
    intro st s s' e hw he
    cases st with
    | some l => simp only [evalC] at he; cases he
    | none => simp only [evalC] at he; exact loopA_ext (fun s s' e hw h => ih _ _ _ _ hw h) _ _ _ _ hw he
  | rangeFunc f ps a b iha ihb =>
    intro st s s' e hw he
    cases st with
    | some l => simp only [evalC] at he; cases he
    | none =>
      simp only [evalC] at he
      split at he
      · rename_i g first captured hev
        split at he
        · rename_i rv Hc hc
          split at he
          · rename_i hget
            split at he
            · cases he
            have wf1 : WF (s.H.push .dfr) := (ext_push hw.next _).wf hw
            have x2 := (ext_push hw.next AObj.dfr).trans (ext_push wf1.next (AObj.loop .ready none g s.σ ps a b))
            have x3 := (x2.trans (hcall.ext hc (x2.wf hw))).trans (ext_set (y := .dead) hget (by simp))
            split at he <;> first | (cases he; exact x3) | cases he
          · cases he
        · cases he
      · cases he
  | exit id =>
    intro st s s' e hw he
    cases st with
    | none => simp only [evalC] at he; cases he; exact Ext.refl _
    | some l => simp only [evalC] at he; cases he
  | scope c ih =>
    intro st s s' e hw he
    cases st with
    | some l => simp only [evalC] at he; cases he
    | none => simp only [evalC] at he; exact scopeA_ext (fun st s s' e hw h => ih _ _ _ _ hw h) _ _ _ _ _ hw he
  | label l' =>
    intro st s s' e hw he
    simp only [evalC] at he
    cases he
    exact Ext.refl _
  | goto l =>
    intro st s s' e hw he
    cases st with
    | none => simp only [evalC] at he; cases he; exact Ext.refl _
    | some l => simp only [evalC] at he; cases he
  | ret =>
    intro st s s' e hw he
    cases st with
    | none => simp only [evalC] at he; cases he; exact Ext.refl _
    | some l => simp only [evalC] at he; cases he
  | refuse =>
    intro st s s' e hw he
    simp only [evalC] at he
    cases he

theorem leaveA_ext (hcall : CallOk P call) : ∀ (ds : List ADef) (H H' : AH), WF H → leaveA call ds H = some H' → Ext H H' := by
  intro ds
  induction ds with
  | nil => intro H H' _ h; cases h; exact Ext.refl _
  | cons d ds ih =>
    intro H H' hw h
    cases d with
    | mark o =>
      simp only [leaveA] at h
      split at h
      · rename_i hg
        have e1 := ext_set (y := .dead) hg (by simp)
        exact e1.trans (ih _ _ (e1.wf hw) h)
      · cases h
    | call g args =>
      simp only [leaveA] at h
      split at h
      · rename_i hc
        have e1 := hcall.ext hc hw
        exact e1.trans (ih _ _ (e1.wf hw) h)
      · cases h

end

/-! ### Results -/
/-- One result. -/
def resRun (tmps : Array Value) : ResultVar → Sem Value
  | .tmp t => pure (tmps.getD t undef)
  | .cell a t => do loadVar t (← asAddr (tmps.getD a undef))

theorem mapM_results {G : Gh} (hW : WRel n0 w0 G H w) {tmps : Array Value} (hT : Reps G σ tmps.toList) : ∀ (l : List ResultVar) (rs : List (Nat × Option (Option Nat))) (vs : List AV), prepRes P l = some rs → resultsA H σ rs = some vs →
    ∃ us : List Value, (l.mapM (resRun tmps)).run P w = .ok us w ∧ Reps G vs us := by
  intro l
  induction l with
  | nil =>
    intro rs vs h1 h2
    cases h1
    cases h2
    exact ⟨[], by simp, .nil⟩
  | cons r l ih =>
    intro rs vs h1 h2
    cases r with
    | tmp t =>
      simp only [prepRes, Option.map_eq_some_iff] at h1
      obtain ⟨rs', h1, rfl⟩ := h1
      simp only [resultsA, Option.map_eq_some_iff] at h2
      obtain ⟨vs', h2, rfl⟩ := h2
      obtain ⟨us, e1, e2⟩ := ih rs' vs' h1 h2
      have hr := hT.getD t (d := .und) (d' := undef) rep_und
      refine ⟨tmps.getD t undef :: us, ?_, .cons ?_ e2⟩
      · simp [List.mapM_cons, e1, resRun]
      · simpa [List.getD_eq_getElem?_getD, Array.getD_eq_getD_getElem?] using hr
    | cell a t =>
      simp only [prepRes] at h1
      split at h1
      · rename_i n rs' hn h1'
        cases h1
        simp only [resultsA] at h2
        split at h2
        · rename_i v vs' hv h2'
          cases h2
          obtain ⟨us, e1, e2⟩ := ih rs' vs' h1' h2'
          have hr := hT.getD a (d := .und) (d' := undef) rep_und
          have hr' : Rep G (σ.getD a .und) (tmps.getD a undef) := by
            simpa [List.getD_eq_getElem?_getD, Array.getD_eq_getD_getElem?] using hr
          obtain ⟨ad, u, k1, k2, k3⟩ := sim_load hn hW hr' hv
          refine ⟨u :: us, ?_, .cons k3 e2⟩
          simp [List.mapM_cons, resRun, e1, k1, asAddr, k2]
        · cases h2
      · cases h1

theorem results_ok {G : Gh} (hW : WRel n0 w0 G H w) {fn : Func} {tmps : Array Value} (hT : Reps G σ tmps.toList) {rs : List (Nat × Option (Option Nat))} {vs : List AV} (hp : prepRes P fn.results.toList = some rs) (h : resultsA H σ rs = some vs) :
    ∃ u, (results fn tmps).run P w = .ok u w ∧ Rep G (one vs) u := by
  obtain ⟨us, e1, e2⟩ := mapM_results hW hT _ _ _ hp h
  have hrun : (results fn tmps).run P w = .ok (if h : us.toArray.size = 1 then us.toArray[0] else .tuple us.toArray) w := by
    have hres : results fn tmps = (do let vs ← fn.results.mapM (resRun tmps); pure (if h : vs.size = 1 then vs[0] else .tuple vs)) := by
      unfold results
      congr 1
    rw [hres, Array.mapM_eq_mapM_toList]
    simp [e1]
  refine ⟨_, hrun, ?_⟩
  cases vs with
  | nil =>
    have : us = [] := by have := e2.1; simp at this; exact List.eq_nil_of_length_eq_zero this.symm
    subst this
    exact .tup rfl (fun i h => absurd h (Nat.not_lt_zero _))
  | cons v vs =>
    cases vs with
    | nil =>
      obtain ⟨u, rfl⟩ : ∃ u, us = [u] := by
        have := e2.1
        simp at this
        exact List.length_eq_one_iff.1 this.symm
      exact e2.head
    | cons v2 vs =>
      have hlen := e2.1
      have : ¬ us.toArray.size = 1 := by simp at hlen ⊢; omega
      rw [dif_neg this]
      exact .tup e2.1 e2.2

/-- A block that nobody owns may change. -/
theorem WRel.put_free (h : WRel n0 w0 G H w) {b : Nat} {w' : World} (hn : ¬ n0.K b) (hown : ∀ o x, H.get o = some x → blkOf G o x ≠ some b) (hm : ∀ k, G.mem b k = none) (hw : Put b w w') : WRel n0 w0 G H w' := by
  refine ⟨h.below.trans (hw.below hn), fun b' hb => by rw [hw.size]; exact h.size b' hb, fun b' k v hv => ?_, fun o x hx => ?_, h.sep, fun b' hb => ⟨⟨(h.lt b' hb).1.1, by rw [hw.size]; exact (h.lt b' hb).1.2⟩, (h.lt b' hb).2⟩, h.fresh, h.res, h.bare⟩
  · have hne : b' ≠ b := by rintro rfl; rw [hm] at hv; cases hv
    have := h.mem _ _ _ hv
    unfold World.cell? at this ⊢
    rw [hw.other b' hne]
    exact this
  · refine (h.obj o x hx).mono (Gh.le.refl G) fun b' hb => ⟨hw.other b' ?_, fun _ => rfl⟩
    rintro rfl
    exact hown o x hx hb

/-- An object is given up; its block may change. -/
theorem WRel.drop (h : WRel n0 w0 G H w) {o b : Nat} {x : AObj} {w' : World} (hx : H.get o = some x) (hb : blkOf G o x = some b) (hm : ∀ k, G.mem b k = none) (hw : Put b w w') : WRel n0 w0 G (H.set o .dead) w' := by
  refine (h.kill o).put_free (h.blk_lt hx hb).1 (fun o' x' hx' hb' => ?_) hm hw
  rw [AH.get_set] at hx'
  split at hx'
  · cases hx'; cases hb'
  · rename_i hne
    exact hne (h.sep o' o x' x b hx' hx hb' hb)

section
variable {call : Caller}

/-- How a function leaves. -/
theorem leaves_ok (hcall : CallOk P call) {n : Nat} {fn : Func} {x : AFunc} (hres : prepRes P fn.results.toList = some x.results) {Hf : AH} {tmps : Array Value} : ∀ (ds : List ADef) (defers : List Deferred) (H H' : AH) (G : Gh) (w : World) (vs : List AV),
    G0.le G → DefsOk G ds defers → WRel n0 w0 G H w → WF H → Reps G σ tmps.toList → leaveA call ds H = some H' → resultsA H' σ x.results = some vs → (if x.fz then freeze 8 H' (one vs) else some (one vs, H')) = some (v, Hf) →
    LeavesInM Fence.wide n P fn tmps (RetOk n0 w0 G0 v Hf) defers .returning w := by
  intro ds
  induction ds with
  | nil =>
    intro defers H H' G w vs h0 hD hW hwf hT hl hr hf
    cases hD
    cases hl
    obtain ⟨u, e1, e2⟩ := results_ok hW hT hres hr
    refine ⟨u, e1, ?_⟩
    split at hf
    · obtain ⟨G', g1, g2, g3⟩ := freeze_ok 8 G H Hf (one vs) v u hW e2 hf
      exact ⟨u, G', rfl, h0.trans g1, g2, g3⟩
    · cases hf
      exact ⟨u, G, rfl, h0, hW, e2⟩
  | cons d ds ih =>
    intro defers H H' G w vs h0 hD hW hwf hT hl hr hf
    cases hD with
    | cons hd hds =>
      rename_i d' ds'
      cases d with
      | mark o =>
        simp only [leaveA] at hl
        split at hl
        · rename_i hg
          obtain ⟨r, m1, m2⟩ := hd
          obtain ⟨r', k1, k2, k3⟩ := hW.obj o _ hg
          rw [m1] at k1; cases k1
          refine ⟨(by simp), .inl ⟨r, _, m2, run_takeDeferred k3, ?_⟩⟩
          have hW' := hW.drop hg (b := r) m1 (hW.no_mem k3 (by simp)) (put_putObj w r (.deferred none))
          exact ih ds' _ H' G _ vs h0 hds hW' ((ext_set (y := .dead) hg (by simp)).wf hwf) hT hl hr hf
        · cases hl
      | call g args =>
        simp only [leaveA] at hl
        split at hl
        · rename_i v1 H1 hc
          obtain ⟨us, cs, rfl, hargs⟩ := hd
          obtain ⟨⟨fn2, e1, e2, e3⟩, hcd⟩ := hcall.dfn hc n0 w0 G w _ (n - 1) .returning hwf hW hargs
          refine ⟨(by simp), .inr ⟨(fun h => by cases h), .func g, cs.toArray, g, (us ++ cs).toArray, rfl, ?_, fun _ _ => trivial, hcd.mono ?_⟩⟩
          · have : invoke (.fn (.func g) cs.toArray) us.toArray = callFunc g (us ++ cs).toArray := by simp [invoke]
            show (invoke (.fn (.func g) cs.toArray) us.toArray).run P w = _
            rw [this]
            exact run_callFunc_enter e1 e2 e3 _
          · rintro e u' w' ⟨rfl, u, G', rfl, g1, g2, g3⟩
            exact ih ds' H1 H' G' w' vs (h0.trans g1) (hds.mono g1) g2 ((hcall.ext hc hwf).wf hwf) (hT.mono g1) hl hr hf
        · cases hl

theorem reps_init {G : Gh} {as : List AV} {us : List Value} (h : Reps G as us) (k : Nat) : Reps G (as ++ List.replicate (k - as.length) .und) (us.toArray ++ Array.replicate (k - us.toArray.size) undef).toList := by
  have hl := h.1
  simp only [Array.toList_append, Array.toList_replicate, List.size_toArray, ← hl]
  exact h.append (Reps.replicate rep_und _)

theorem reps_foldl {G : Gh} : ∀ (l : List (Tmp × AV)) (l' : List (Tmp × Value)) (σ : List AV) (tmps : Array Value), l.length = l'.length → (∀ (i : Nat) (t : Tmp) (x : AV), l[i]? = some (t, x) → ∃ u, l'[i]? = some (t, u) ∧ Rep G x u) → Reps G σ tmps.toList →
    Reps G (l.foldl (fun σ (t, v) => σ.set t v) σ) (l'.foldl (fun tmps (t, a) => tmps.setIfInBounds t a) tmps).toList := by
  intro l
  induction l with
  | nil =>
    intro l' σ tmps hl _ hT
    have : l' = [] := List.eq_nil_of_length_eq_zero hl.symm
    subst this
    exact hT
  | cons p l ih =>
    intro l' σ tmps hl hp hT
    obtain ⟨t, x⟩ := p
    cases l' with
    | nil => simp at hl
    | cons q l' =>
      obtain ⟨u, e1, e2⟩ := hp 0 t x rfl
      simp at e1
      subst e1
      simp only [List.foldl_cons]
      refine ih l' _ _ (by simpa using hl) (fun i t' x' h => by simpa using hp (i + 1) t' x' (by simpa using h)) ?_
      rw [Array.toList_setIfInBounds]
      exact hT.set t e2

/-- A function's body. -/
theorem body_ok (hext : ExtOk P) (hmix : P.follows .mixedOrders = true) (hcall : CallOk P call) {x : AFunc} {f : Func} {c : Code} {ann : Nat → Nat → Nat} (hcode : prepCode P ann c = some x.body) (hn : x.ntmps = f.ntmps) {lim n : Nat}
    {as : List AV} {us : List Value} {e : AEx} {s : ASt} (he : evalC call lim x.body none { σ := as ++ List.replicate (x.ntmps - as.length) .und, H, ds := [] } = some (e, s)) (hW : WRel n0 w0 G H w) (hwf : WF H) (hA : Reps G as us) {Q : Exit → Act → World → Prop}
    (hQ : ∀ a w, StOk n0 w0 G s a w → Q (exOf e) a w) : c.wpIn Fence.wide n P Q { tmps := us.toArray ++ Array.replicate (f.ntmps - us.toArray.size) undef, defers := [] } w := by
  have h1 := (evalC_ok (r := none) (n := n) (n0 := n0) (w0 := w0) (G0 := G) (lim := lim) hext hmix hcall c x.body hcode (.inl rfl)).1
  refine h1 _ s e _ w Q ⟨G, Gh.le.refl G, hW, ?_, .nil, hwf⟩ he hQ
  rw [hn]
  exact reps_init hA _

end

theorem callN_zero {A : FuncId → Option AFunc} {c : ACal} {as : List AV} {H : AH} : callN A 0 c as H = none := by
  unfold callN
  rfl

/-- THE ABSTRACT MACHINE SIMULATES. -/
theorem callN_ok (hext : ExtOk P) (hmix : P.follows .mixedOrders = true) {A : FuncId → Option AFunc} (hA : TabOk P A) : ∀ n, CallOk P (callN A n) := by
  intro n
  induction n with
  | zero =>
    refine ⟨fun h => ?_, fun h => ?_, fun h => ?_, fun h => ?_⟩ <;> rw [callN_zero] at h <;> cases h
  | succ n ih =>
    refine ⟨?_, ?_, ?_, ?_⟩
    · -- free numbers
      intro c as H H' v h hw
      cases c with
      | f g =>
        simp only [callN] at h
        split at h
        · cases h
        rename_i x hx
        obtain ⟨f, c, ann, f1, f2, f3, f4, f5, f6⟩ := (hA g x hx).ex
        split at h
        · rename_i e s he
          have e1 := evalC_ext ih x.body _ _ _ _ hw he
          split at h
          · split at h
            · rename_i H1 hl
              have e2 := leaveA_ext ih _ _ _ (e1.wf hw) hl
              split at h
              · split at h
                · exact (e1.trans e2).trans (freeze_ext 8 _ _ _ _ h)
                · cases h; exact e1.trans e2
              · cases h
            · cases h
          · cases h
        · cases h
      | d g =>
        simp only [callN] at h
        split at h
        · cases h
        rename_i x hx
        obtain ⟨f, c, ann, f1, f2, f3, f4, f5, f6⟩ := (hA g x hx).ex
        split at h
        · rename_i e s he
          have e1 := evalC_ext ih x.body _ _ _ _ hw he
          split at h
          · split at h
            · cases h; exact e1
            · cases h
          · cases h
        · cases h
      | y o =>
        simp only [callN] at h
        split at h
        · split at h
          · split at h
            · rename_i s1 he1
              have e1 := evalC_ext ih _ _ _ _ _ hw he1
              split at h
              · rename_i g1 σ1 ps1 xa1 xb1 hg1
                have e2 := ext_set (y := .loop .busy none g1 σ1 ps1 xa1 xb1) hg1 (by simp)
                split at h
                · rename_i e s' he2
                  have e3 := evalC_ext ih _ _ _ _ _ (e2.wf (e1.wf hw)) he2
                  split at h
                  · rename_i hg2
                    have e4 := (e1.trans e2).trans e3
                    split at h <;> first | (cases h; exact e4.trans (ext_set hg2 (by simp))) | cases h
                  · cases h
                · cases h
              · cases h
            · cases h
          · cases h
        · cases h
    · -- a call
      intro g as H H' v h n0 w0 G w us m hwf hW hR
      simp only [callN] at h
      split at h
      · cases h
      rename_i x hx
      obtain ⟨f, c, ann, f1, f2, f3, f4, f5, f6⟩ := (hA g x hx).ex
      refine ⟨⟨f, f1, by rw [f2]; rfl, f3⟩, ?_⟩
      split at h
      · rename_i e s he
        refine callsIn_of_wp_marks f1 f2 trivial (body_ok hext hmix ih f4 f5 he hW hwf hR fun a' w' hs => ?_)
        obtain ⟨G1, h0, hW1, hT1, hD1, hwf1⟩ := hs
        split at h
        · rename_i hex
          split at h
          · rename_i H1 hl
            split at h
            · rename_i vs hr
              have := leaves_ok (n := m) ih f6 s.ds a'.defers s.H H1 G1 w' vs h0 hD1 hW1 hwf1 hT1 hl hr h
              rcases hex with rfl | rfl <;> exact this
            · cases h
          · cases h
        · cases h
      · cases h
    · -- a deferred call
      intro g as H H' v h n0 w0 G w us m u hwf hW hR
      simp only [callN] at h
      split at h
      · cases h
      rename_i x hx
      obtain ⟨f, c, ann, f1, f2, f3, f4, f5, f6⟩ := (hA g x hx).ex
      refine ⟨⟨f, f1, by rw [f2]; rfl, f3⟩, ?_⟩
      split at h
      · rename_i e s he
        refine callsDIn_of_wp f1 f2 trivial (body_ok hext hmix ih f4 f5 he hW hwf hR fun a' w' hs => ?_)
        obtain ⟨G1, h0, hW1, hT1, hD1, hwf1⟩ := hs
        split at h
        · rename_i hex
          split at h
          · rename_i vs hds hr
            cases h
            rw [hds] at hD1
            have hdn : a'.defers = [] := by generalize a'.defers = ds at hD1; cases hD1; rfl
            obtain ⟨u', r1, r2⟩ := results_ok hW1 hT1 f6 hr
            have : a'.defers = [] ∧ ∃ v, (results f a'.tmps).run P w' = .ok v w' ∧ RetOk n0 w0 G (one vs) s.H (.returned v) w' := ⟨hdn, u', r1, u', G1, rfl, h0, hW1, r2⟩
            rcases hex with rfl | rfl <;> exact this
          · cases h
        · cases h
      · cases h
    · -- a round
      intro o as H H' v h n0 w0 G w us m r hwf hW hR hm
      simp only [callN] at h
      split at h
      · rename_i g σ ps xa xb hg
        split at h
        · rename_i hlen
          obtain ⟨r', l, m1, m2, m3, m4, m5, m6, m7, m8, m9⟩ := hW.loop hg
          rw [hm] at m1; cases m1
          have hps : l.params.size = ps.length := by rw [← m7]; simp
          have hsz : us.toArray.size = l.params.size := by
            have := hR.1
            simp
            omega
          refine ⟨l.fn, _, l.assign, l.body, w, run_yield m3 hsz, ?_⟩
          refine roundIn_of_wpIn trivial ?_
          split at h
          · rename_i s1 he1
            obtain ⟨⟨ann, hca⟩, hpa⟩ := m8
            have c1 := (evalC_ok (r := some r) (n := m) (n0 := n0) (w0 := w0) (G0 := G) (lim := n) hext hmix ih l.assign xa hca (.inr hpa)).1
            refine c1 _ s1 .normal _ w _ ⟨G, Gh.le.refl G, hW, ?_, .nil, hwf⟩ he1 (fun a1 w1 hs1 => ?_)
            · have hz : l.params.zip us.toArray = ((ps.zip us).toArray) := by
                rw [← m7]
                apply Array.ext'
                simp
              rw [hz, List.foldl_toArray]
              refine reps_foldl _ _ _ _ (by simp [hR.1]) (fun i t x hi => ?_) m6
              rw [List.getElem?_zip_eq_some] at hi
              obtain ⟨u, hu, hrep⟩ := hR.get? hi.2
              exact ⟨u, by rw [List.getElem?_zip_eq_some]; exact ⟨hi.1, hu⟩, hrep⟩
            · -- behind the assignment
              split at h
              · rename_i g2 σ2 ps2 xa2 xb2 hg2
                obtain ⟨G1, h0, hW1, hT1, hD1, hwf1⟩ := hs1
                obtain ⟨r2, l2, k1, k2, k3, k4, k5, k6, k7, k8, k9⟩ := hW1.loop hg2
                rw [h0.mp _ _ hm] at k1; cases k1
                refine ⟨_, run_beginRound k3 k4, ?_⟩
                have hpend : pendC none = some l2.pending := k5
                have hW2 := hW1.set_loop (st' := .busy) (pd' := none) (f' := g2) hg2 (h0.mp _ _ hm) k3 hpend
                split at h
                · rename_i e s' he2
                  obtain ⟨⟨ann2, hcb⟩, hpb⟩ := m9
                  have c2 := (evalC_ok (r := some r) (n := m) (n0 := n0) (w0 := w0) (G0 := G) (lim := n) hext hmix ih l.body xb hcb (.inr hpb)).1
                  refine c2 { s1 with H := s1.H.set o (.loop .busy none g2 σ2 ps2 xa2 xb2) } s' e a1 _ _ ⟨G1, h0, hW2, hT1, hD1, (ext_set (y := .loop .busy none g2 σ2 ps2 xa2 xb2) hg2 (by simp)).wf hwf1⟩ he2 (fun a2 w3 hs2 => ?_)
                  obtain ⟨G2, h1, hW3, hT2, hD2, hwf2⟩ := hs2
                  split at h
                  · rename_i st3 pd3 g3 σ3 ps3 xa3 xb3 hg3
                    obtain ⟨r3, l3, q1, q2, q3, q4, q5, q6, q7, q8, q9⟩ := hW3.loop hg3
                    rw [h1.mp _ _ hm] at q1; cases q1
                    split at h
                    · cases h
                      exact ⟨_, _, run_endRound none q3, _, G2, rfl, h1, hW3.set_loop (pd' := none) hg3 (h1.mp _ _ hm) q3 rfl, .lit rfl⟩
                    · cases h
                      exact ⟨_, _, run_endRound (some .ret) q3, _, G2, rfl, h1, hW3.set_loop (pd' := some .ret) hg3 (h1.mp _ _ hm) q3 rfl, .lit rfl⟩
                    · rename_i id
                      cases h
                      exact ⟨_, _, run_endRound (some (.exit id)) q3, _, G2, rfl, h1, hW3.set_loop (pd' := some (.exit id)) hg3 (h1.mp _ _ hm) q3 rfl, .lit rfl⟩
                    · cases h
                  · cases h
                · cases h
              · cases h
          · cases h
        · cases h
      · cases h

end Go.Abs
