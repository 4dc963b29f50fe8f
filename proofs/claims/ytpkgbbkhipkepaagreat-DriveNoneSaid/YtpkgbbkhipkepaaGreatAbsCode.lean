/-
  CODE.
-/
import Derived.Test.YtpkgbbkhipkepaaGreatAbsReg
import Derived.RangeFuncRecord
namespace Go.Abs
open Go.RowKit

variable {P : Program} {n0 : Fr P} {w0 : World} {G G0 : Gh} {H H' : AH} {w : World} {σ : List AV} {v : AV}

def exOf : AEx → Exit
  | .normal => .normal
  | .exit id => .exit id
  | .goto l => .goto l
  | .ret => .ret

theorem hasL_find {ann : Nat → Nat → Nat} : ∀ (c : Code) (x : ACode), prepCode P ann c = some x → ∀ l, hasL x l = (findLabel c l).isSome := by
  intro c
  induction c with
  | seq a b iha ihb =>
    intro x h l
    simp only [prepCode] at h
    split at h
    · rename_i xa xb ha hb
      cases h
      simp only [hasL, findLabel, iha _ ha l, ihb _ hb l]
      cases findLabel a l <;> simp
    · cases h
  | label l' =>
    intro x h l
    simp only [prepCode] at h
    cases h
    simp only [hasL, findLabel]
    split <;> simp_all
  | skip => intro x h l; simp only [prepCode] at h; cases h; rfl
  | region id ops d =>
    intro x h l
    simp only [prepCode, Option.map_eq_some_iff] at h
    obtain ⟨_, _, rfl⟩ := h
    rfl
  | cond c a b =>
    intro x h l
    simp only [prepCode] at h
    split at h
    · split at h
      · cases h; rfl
      · cases h
    · cases h
  | rangeFunc f ps a b =>
    intro x h l
    simp only [prepCode] at h
    split at h
    · split at h
      · split at h
        · cases h; rfl
        · cases h
      · cases h
    · cases h
  | block id c => intro x h l; simp only [prepCode, Option.map_eq_some_iff] at h; obtain ⟨_, _, rfl⟩ := h; rfl
  | loop c => intro x h l; simp only [prepCode, Option.map_eq_some_iff] at h; obtain ⟨_, _, rfl⟩ := h; rfl
  | scope c => intro x h l; simp only [prepCode, Option.map_eq_some_iff] at h; obtain ⟨_, _, rfl⟩ := h; rfl
  | exit id => intro x h l; simp only [prepCode] at h; cases h; rfl
  | goto id => intro x h l; simp only [prepCode] at h; cases h; rfl
  | ret => intro x h l; simp only [prepCode] at h; cases h; rfl
  | refuse s => intro x h l; simp only [prepCode] at h; cases h; rfl

section
variable {b : Frame} {a : Act} {k : List Item} {cs : List Frame}
theorem stepR_scope {c : Code} : step P (lone (b.atR a (.code (.scope c) :: k)) cs w) = .next (lone (b.atR a (.code c :: .inScope c :: k)) cs w) :=
  step_lone_go (by simp [stepG, stepG.exec, Frame.atR])
theorem stepR_inScope {c : Code} : step P (lone (b.atR a (.inScope c :: k)) cs w) = .next (lone (b.atR a k) cs w) :=
  step_lone_go (by simp [stepG, stepG.exec, Frame.atR])
end

/-- What is shown of code: from the abstract run. -/
def CodeOk (P : Program) (r : Option Nat) (n : Nat) (n0 : Fr P) (w0 : World) (G0 : Gh) (c : Code) (ev : ASt → Option (AEx × ASt)) : Prop :=
  ∀ (s s' : ASt) (e : AEx) (a : Act) (w : World) (Q : Exit → Act → World → Prop), StOk n0 w0 G0 s a w → ev s = some (e, s') → (∀ a w, StOk n0 w0 G0 s' a w → Q (exOf e) a w) → c.wpIn (Wd r) n P Q a w

theorem loop_ok {r : Option Nat} {n lim : Nat} {c : Code} {ev : ASt → Option (AEx × ASt)} (hc : CodeOk P r n n0 w0 G0 c ev) : CodeOk P r n n0 w0 G0 (.loop c) (loopA ev lim) := by
  intro s s' e a w Q hs he hQ b k cs hro hb hr
  have key : ∀ (m : Nat) (s : ASt) (a : Act) (w : World), StOk n0 w0 G0 s a w → loopA ev m s = some (e, s') →
      ∃ e a' w', Q e a' w' ∧ ArrivesIn (Machine.fenced P (Wd r)) P (lone (b.atR a (.code c :: .inLoop c :: k)) cs w) b k cs e a' w' := by
    intro m
    induction m with
    | zero => intro s a w _ h; cases h
    | succ m ih =>
      intro s a w hs h
      simp only [loopA] at h
      split at h
      · rename_i s1 h1
        obtain ⟨e₁, a₁, w₁, hq, harr⟩ := hc s s1 .normal a w (fun e a w => e = .normal ∧ StOk n0 w0 G0 s1 a w) hs h1 (fun a w h => ⟨rfl, h⟩) b (.inLoop c :: k) cs hro hb hr
        obtain ⟨rfl, hs1⟩ := hq
        obtain ⟨e₂, a₂, w₂, hq₂, harr₂⟩ := ih s1 a₁ w₁ hs1 h
        exact ⟨e₂, a₂, w₂, hq₂, .of_steps (StepsIn.trans harr (.one (fenced_calm hb hr rfl) stepR_inLoop)) harr₂⟩
      · rename_i hne
        obtain ⟨e₁, a₁, w₁, hq, harr⟩ := hc s s' e a w (fun e' a w => e' = exOf e ∧ StOk n0 w0 G0 s' a w) hs h (fun a w h => ⟨rfl, h⟩) b (.inLoop c :: k) cs hro hb hr
        obtain ⟨rfl, hs1⟩ := hq
        refine ⟨_, a₁, w₁, hQ _ _ hs1, .pass (x := .inLoop c) rfl (fun _ _ => .inl ?_) harr⟩
        cases e with
        | normal => exact absurd h (hne _)
        | _ => simp [exOf]
  obtain ⟨e, a', w', hq, harr⟩ := key _ s a w hs he
  exact ⟨e, a', w', hq, .of_steps (.one (fenced_calm hb hr rfl) stepR_loop) harr⟩

theorem scope_ok {r : Option Nat} {n lim : Nat} {c : Code} {has : Nat → Bool} {ev : Option Nat → ASt → Option (AEx × ASt)} (hhas : ∀ l, has l = (findLabel c l).isSome) (hc : CodeOk P r n n0 w0 G0 c (ev none))
    (hl : ∀ (l : Nat) (rest : Code), findLabel c l = some rest → CodeOk P r n n0 w0 G0 rest (ev (some l))) : CodeOk P r n n0 w0 G0 (.scope c) (scopeA has ev lim none) := by
  intro s s' e a w Q hs he hQ b k cs hro hb hr
  have key : ∀ (m : Nat) (st : Option Nat) (c' : Code) (s : ASt) (a : Act) (w : World), (match st with | none => c' = c | some l => findLabel c l = some c') → StOk n0 w0 G0 s a w → scopeA has ev m st s = some (e, s') →
      ∃ e a' w', Q e a' w' ∧ ArrivesIn (Machine.fenced P (Wd r)) P (lone (b.atR a (.code c' :: .inScope c :: k)) cs w) b k cs e a' w' := by
    intro m
    induction m with
    | zero => intro st c' s a w _ _ h; cases h
    | succ m ih =>
      intro st c' s a w hst hs h
      have hcs : CodeOk P r n n0 w0 G0 c' (ev st) := by
        cases st with
        | none => simp only at hst; subst hst; exact hc
        | some l => exact hl l c' hst
      simp only [scopeA] at h
      have out : ∀ (e1 : AEx) (s1 : ASt), ev st s = some (e1, s1) → (e1, s1) = (e, s') → (∀ l, e1 = .goto l → has l = false) → ∃ e a' w', Q e a' w' ∧ ArrivesIn (Machine.fenced P (Wd r)) P (lone (b.atR a (.code c' :: .inScope c :: k)) cs w) b k cs e a' w' := by
        rintro e1 s1 h1 h2 h3
        cases h2
        obtain ⟨e₁, a₁, w₁, hq, harr⟩ := hcs s s' e a w (fun e' a w => e' = exOf e ∧ StOk n0 w0 G0 s' a w) hs h1 (fun a w h => ⟨rfl, h⟩) b (.inScope c :: k) cs hro hb hr
        obtain ⟨rfl, hs1⟩ := hq
        refine ⟨_, a₁, w₁, hQ _ _ hs1, ?_⟩
        cases e with
        | normal => exact StepsIn.trans harr (.one (fenced_calm hb hr rfl) stepR_inScope)
        | exit id =>
          have hx : exitTo id (.inScope c :: k) = exitTo id k := by simp [exitTo]
          exact ⟨fun k' hk => harr.1 k' (by rw [hx]; exact hk), fun hr' hk => harr.2 hr' (by rw [hx]; exact hk)⟩
        | goto l =>
          have hn : findLabel c l = none := by
            have := hhas l
            rw [h3 l rfl] at this
            cases hf : findLabel c l with
            | none => rfl
            | some y => rw [hf] at this; cases this
          have hx : gotoIn l (.inScope c :: k) = gotoIn l k := by simp [gotoIn, hn]
          exact ⟨fun k' hk => harr.1 k' (by rw [hx]; exact hk), fun hr' hk => harr.2 hr' (by rw [hx]; exact hk)⟩
        | ret => exact harr
      split at h
      · rename_i l s1 h1
        split at h
        · rename_i hhl
          obtain ⟨e₁, a₁, w₁, hq, harr⟩ := hcs s s1 (.goto l) a w (fun e' a w => e' = .goto l ∧ StOk n0 w0 G0 s1 a w) hs h1 (fun a w h => ⟨rfl, h⟩) b (.inScope c :: k) cs hro hb hr
          obtain ⟨rfl, hs1⟩ := hq
          rw [hhas l] at hhl
          obtain ⟨rest, hrest⟩ := Option.isSome_iff_exists.1 hhl
          have hg : gotoIn l (.inScope c :: k) = some (.code rest :: .inScope c :: k) := by simp [gotoIn, hrest]
          obtain ⟨e₂, a₂, w₂, hq₂, harr₂⟩ := ih (some l) rest s1 a₁ w₁ hrest hs1 h
          exact ⟨e₂, a₂, w₂, hq₂, .of_steps (harr.1 _ hg) harr₂⟩
        · rename_i hhl
          simp only [Option.some.injEq] at h
          exact out _ _ h1 h (fun l' hl' => by cases hl'; simpa using hhl)
      · rename_i hne
        exact out e s' h rfl (fun l' hl' => by subst hl'; exact absurd h (hne _ _))
  obtain ⟨e, a', w', hq, harr⟩ := key _ none c s a w rfl hs he
  exact ⟨e, a', w', hq, .of_steps (.one (fenced_calm hb hr rfl) stepR_scope) harr⟩

/-- The world's block that is no row becomes another. -/
theorem put_putObj (w : World) (r : Nat) (o : Obj) : Put r w (w.putObj r o) :=
  ⟨rfl, rfl, rfl, by simp, fun k hk => World.putObj_heap_other hk⟩

theorem WRel.no_mem (h : WRel n0 w0 G H w) {r : Nat} {x : Obj} (hr : w.heap[r]? = some x) (hx : ∀ c e f, x ≠ .cells c e f) (k : Nat) : G.mem r k = none := by
  cases hm : G.mem r k with
  | none => rfl
  | some v =>
    have := h.mem _ _ _ hm
    unfold World.cell? at this
    rw [hr] at this
    cases x <;> first | (exact absurd rfl (hx _ _ _)) | cases this

/-- A new object that is no row. -/
theorem WRel.push_mp (h : WRel n0 w0 G H w) (hF : Free n0 G H) {x : AObj} {y : Obj} (hx : ∀ {G' : Gh} {w' : World}, G.le G' → G'.mp H.n = some w.heap.size → w'.heap[w.heap.size]? = some y → ObjOk G' w' n0 H.n x) (hb : ∀ G', blkOf G' H.n x = G'.mp H.n) :
    G.le (G.withMp H.n w.heap.size) ∧ WRel n0 w0 (G.withMp H.n w.heap.size) (H.push x) (w.alloc y) := by
  have hG : G.le (G.withMp H.n w.heap.size) := Gh.le_withMp hF.1.2.1
  refine ⟨hG, h.push hF hG (below_alloc _ _) (fun b k v hv => .inl hv) (fun _ h => h) ?_ ?_ ?_⟩
  · exact hx hG (by simp [Gh.withMp]) (heap_alloc_new _ _)
  · intro b hb'
    rw [hb] at hb'
    simp [Gh.withMp] at hb'
    omega
  · exact fun o hne hu => hu.withMp hne

/-- What a loop's object stands for. -/
theorem WRel.loop (h : WRel n0 w0 G H w) {o : Nat} {st : LoopState} {pd : Option ACode} {f : FuncId} {ps : List Tmp} {x y : ACode} (ho : H.get o = some (.loop st pd f σ ps x y)) :
    ∃ r l, G.mp o = some r ∧ ¬ n0.K r ∧ w.heap[r]? = some (.loop l) ∧ l.state = st ∧ pendC pd = some l.pending ∧ Reps G σ l.tmps.toList ∧ l.params.toList = ps ∧ Coded P l.assign x ∧ Coded P l.body y := h.obj o _ ho

/-- A loop's object changes. -/
theorem WRel.set_loop (h : WRel n0 w0 G H w) {o r : Nat} {st st' : LoopState} {pd pd' : Option ACode} {f f' : FuncId} {ps : List Tmp} {x y : ACode} {l : Loop} {pd2 : Option Code} (ho : H.get o = some (.loop st pd f σ ps x y)) (hr : G.mp o = some r) (hl : w.heap[r]? = some (.loop l))
    (hp : pendC pd' = some pd2) : WRel n0 w0 G (H.set o (.loop st' pd' f' σ ps x y)) (w.putObj r (.loop { l with state := st', pending := pd2 })) := by
  obtain ⟨r', l', h1, h2, h3, h4, h5, h6, h7, h8, h9⟩ := h.loop ho
  rw [hr] at h1; cases h1
  rw [hl] at h3; cases h3
  have hlt : r < w.heap.size := by
    rcases Nat.lt_or_ge r w.heap.size with h' | h'
    · exact h'
    · rw [Array.getElem?_eq_none h'] at hl; cases hl
  refine h.set_obj ho (b := r) hr (put_putObj _ _ _) (h.no_mem hl (by simp)) ⟨r, _, hr, h2, World.putObj_heap_same hlt, rfl, hp, h6, h7, h8, h9⟩ hr

section
variable {call : Caller} {lim : Nat} {r : Option Nat} {n : Nat} {ann : Nat → Nat → Nat}

/-- A range over a function. -/
theorem rangeFunc_ok (hcall : CallOk P call) {f : Operand} {ps : Array Tmp} {a b : Code} {x y : ACode} (hf : okO f = true) (hx : Coded P a x) (hy : Coded P b y) : CodeOk P none n n0 w0 G0 (.rangeFunc f ps a b) (evalC call lim (.rangeFunc f ps.toList x y) none) := by
  intro s s' e act w Q hs he hQ
  obtain ⟨G, h0, hW, hT, hD, hwf⟩ := hs
  simp only [evalC] at he
  split at he
  · rename_i g first captured hev
    split at he
    · rename_i rv Hc hc
      split at he
      · rename_i st pending f2 σ2 ps2 x2 y2 hget
        split at he
        · cases he
        rename_i hbusy
        refine wpIn_rangeFunc fun fn _ => ?_
        -- the two blocks
        obtain ⟨g1, W1⟩ := hW.push_mp (x := .dfr) (y := .deferred (some [])) (hW.free hwf.next) (fun {G' w'} _ h1 h2 => ⟨_, h1, hW.new, h2⟩) (fun _ => rfl)
        have wf1 : WF (s.H.push .dfr) := (ext_push hwf.next _).wf hwf
        obtain ⟨g2, W2⟩ := W1.push_mp (x := .loop .ready none g s.σ ps.toList x y) (y := .loop { state := .ready, pending := none, fn, tmps := act.tmps, params := ps, assign := a, body := b, defers := w.heap.size }) (W1.free wf1.next)
          (fun {G' w'} hG' h1 h2 => ⟨_, _, h1, W1.new, h2, rfl, rfl, hT.mono (g1.trans hG'), rfl, hx, hy⟩) (fun _ => rfl)
        have wf2 : WF ((s.H.push .dfr).push (.loop .ready none g s.σ ps.toList x y)) := (ext_push wf1.next _).wf wf1
        have hmpd : ((G.withMp s.H.n w.heap.size).withMp (s.H.n + 1) (w.alloc (.deferred (some []))).heap.size).mp s.H.n = some w.heap.size := by
          simp [Gh.withMp]
        have hmpl : ((G.withMp s.H.n w.heap.size).withMp (s.H.n + 1) (w.alloc (.deferred (some []))).heap.size).mp (s.H.n + 1) = some (w.heap.size + 1) := by
          simp [Gh.withMp]
        have hfr : Rep G (evalO s.σ f) (act.eval f) := eval_rep hT hf
        rw [hev] at hfr
        generalize hvf : act.eval f = vf at hfr
        cases hfr with
        | fn k1 k2 k3 k4 =>
          rename_i us vs
          have hG2 : G.le _ := g1.trans g2
          have hall : Reps ((G.withMp s.H.n w.heap.size).withMp (s.H.n + 1) (w.alloc (.deferred (some []))).heap.size) (first ++ [.yld (s.H.n + 1)] ++ captured) (us ++ [.func (.yield (w.heap.size + 1)) #[] #[]] ++ vs) :=
            (Reps.append (Reps.mono hG2 ⟨k1, k3⟩) (Reps.cons (.yld hmpl) .nil)).append (Reps.mono hG2 ⟨k2, k4⟩)
          obtain ⟨⟨fn2, e1, e2, e3⟩, hcc⟩ := hcall.fn hc n0 w0 _ _ _ (n - 1) wf2 W2 hall
          refine ⟨w.heap.size + 1, [{ target := .collected w.heap.size, args := #[] }], _, { target := .fn (.func g) vs.toArray, args := (us ++ [Value.func (.yield (w.heap.size + 1)) #[] #[]]).toArray }, (w.alloc (.deferred (some []))).alloc (.loop { state := .ready, pending := none, fn, tmps := act.tmps, params := ps, assign := a, body := b, defers := w.heap.size }), g, (us ++ [Value.func (.yield (w.heap.size + 1)) #[] #[]] ++ vs).toArray, (w.alloc (.deferred (some []))).alloc (.loop { state := .ready, pending := none, fn, tmps := act.tmps, params := ps, assign := a, body := b, defers := w.heap.size }), run_enterLoop_outer fn act.tmps ps a b, ?_, fun _ _ => trivial, ?_, (fun h => by cases h), ?_⟩
          · have he2 : act.eval (.const (.func (.yield (w.heap.size + 1)) #[] #[])) = .func (.yield (w.heap.size + 1)) #[] #[] := rfl
            simp [resolve, hvf, he2, Deferred.ofValue]
          · have : invoke (.fn (.func g) vs.toArray) (us ++ [Value.func (.yield (w.heap.size + 1)) #[] #[]]).toArray = callFunc g (us ++ [Value.func (.yield (w.heap.size + 1)) #[] #[]] ++ vs).toArray := by
              simp [invoke]
            rw [this]
            exact run_callFunc_enter e1 e2 e3 _
          · refine CallsIn.mono (callsIn_wd hcc) ?_
            rintro e' w3 ⟨u, G3, rfl, c1, c2, c3⟩
            obtain ⟨rl, l, m1, m2, m3, m4, m5, m6, m7, m8, m9⟩ := c2.loop hget
            have hrl : rl = w.heap.size + 1 := by
              have := c1.mp _ _ hmpl
              rw [m1] at this
              cases this; rfl
            subst hrl
            have hst : l.state ≠ .busy := by rw [m4]; exact hbusy
            refine ⟨_, _, run_endLoop m3 hst, ?_⟩
            have W3 := (c2.set_loop (st' := .exhausted) (pd' := pending) (f' := f2) hget m1 m3 m5).kill (s.H.n + 1)
            have hwf3 : WF Hc := (hcall.ext hc wf2).wf wf2
            have hn3 : s.H.n + 2 ≤ Hc.n := by
              have := (hcall.ext hc wf2).n
              simpa using this
            have hst' : StOk n0 w0 G0 { s with H := Hc.set (s.H.n + 1) .dead, ds := .mark s.H.n :: s.ds } { act with defers := [{ target := .collected w.heap.size, args := #[] }] ++ act.defers } (w3.putObj (w.heap.size + 1) (.loop { l with state := .exhausted, pending := l.pending })) := by
              refine ⟨G3, h0.trans (hG2.trans c1), W3.ext fun z => ?_, hT.mono (hG2.trans c1), .cons ⟨w.heap.size, c1.mp _ _ hmpd, rfl⟩ (hD.mono (hG2.trans c1)), wf_set hwf3 (by omega)⟩
              simp only [AH.get_set]
              split <;> rfl
            generalize l.pending = lp at m5 hst'
            split at he
            · cases he
              simp only [pendC, Option.some.injEq] at m5
              subst m5
              exact hQ _ _ hst'
            · cases he
              simp only [pendC, Option.some.injEq] at m5
              subst m5
              exact wpIn_ret (hQ _ _ hst')
            · cases he
              simp only [pendC, Option.some.injEq] at m5
              subst m5
              exact wpIn_exit (hQ _ _ hst')
            · cases he
      · cases he
    · cases he
  · cases he

theorem plain_region {id : Nat} {l : List AOper} {d : Bool} (h : r = none ∨ plainC (.region id l d) = true) : r = none ∨ ∀ ao ∈ l, ∀ f as, ao.op ≠ .defer f as := by
  refine h.imp (fun h => h) fun h ao hao f as hop => ?_
  simp only [plainC, List.all_eq_true] at h
  have := h ao hao
  rw [hop] at this
  cases this

/-- Code simulates. -/
theorem evalC_ok (hext : ExtOk P) (hmix : P.follows .mixedOrders = true) (hcall : CallOk P call) : ∀ (c : Code) (x : ACode), prepCode P ann c = some x → (r = none ∨ plainC x = true) →
    CodeOk P r n n0 w0 G0 c (evalC call lim x none) ∧ ∀ (l : Nat) (rest : Code), findLabel c l = some rest → CodeOk P r n n0 w0 G0 rest (evalC call lim x (some l)) := by
  intro c
  induction c with
  | skip =>
    intro x h hr
    simp only [prepCode] at h
    cases h
    refine ⟨fun s s' e a w Q hs he hQ => ?_, fun l rest h => by cases h⟩
    simp only [evalC] at he
    cases he
    exact wpIn_skip (hQ _ _ hs)
  | region id ops d =>
    intro x h hr
    simp only [prepCode, Option.map_eq_some_iff] at h
    obtain ⟨L, hL, rfl⟩ := h
    refine ⟨fun s s' e a w Q hs he hQ => ?_, fun l rest h => by cases h⟩
    simp only [evalC, Option.map_eq_some_iff] at he
    obtain ⟨s1, he, h2⟩ := he
    cases h2
    cases d with
    | true =>
      simp only [if_true] at hL he
      exact region_draw hext hmix hcall hL (plain_region hr) hs he hQ
    | false =>
      simp only [Bool.false_eq_true, if_false] at hL he
      exact region_seq hext hcall hL (plain_region hr) hs he hQ
  | seq a b iha ihb =>
    intro x h hr
    simp only [prepCode] at h
    split at h
    · rename_i xa xb ha hb
      cases h
      have hra : r = none ∨ plainC xa = true := hr.imp (fun h => h) fun h => by simp only [plainC, Bool.and_eq_true] at h; exact h.1
      have hrb : r = none ∨ plainC xb = true := hr.imp (fun h => h) fun h => by simp only [plainC, Bool.and_eq_true] at h; exact h.2
      obtain ⟨a1, a2⟩ := iha xa ha hra
      obtain ⟨b1, b2⟩ := ihb xb hb hrb
      have both : ∀ (ca : Code) (st : Option Nat), CodeOk P r n n0 w0 G0 ca (evalC call lim xa st) → CodeOk P r n n0 w0 G0 (.seq ca b) (fun s => match evalC call lim xa st s with
          | some (.normal, s') => evalC call lim xb none s'
          | r => r) := by
        intro ca st hca s s' e act w Q hs he hQ
        refine wpIn_seq ?_
        simp only at he
        split at he
        · rename_i s1 h1
          exact hca s s1 .normal act w _ hs h1 (fun a' w' hs1 => b1 s1 s' e a' w' Q hs1 he hQ)
        · rename_i hne
          refine hca s s' e act w _ hs he (fun a' w' hs1 => ?_)
          cases e with
          | normal => exact absurd he (hne _)
          | _ => exact hQ _ _ hs1
      refine ⟨fun s s' e act w Q hs he hQ => ?_, fun l rest hl s s' e act w Q hs he hQ => ?_⟩
      · simp only [evalC] at he
        exact both a none a1 s s' e act w Q hs he hQ
      · simp only [findLabel] at hl
        simp only [evalC, hasL_find a xa ha l] at he
        split at hl
        · rename_i ra hra'
          cases hl
          simp only [hra', Option.isSome_some, if_true] at he
          exact both ra (some l) (a2 l ra hra') s s' e act w Q hs he hQ
        · rename_i hra'
          simp only [hra', Option.isSome_none, Bool.false_eq_true, if_false] at he
          exact b2 l rest hl s s' e act w Q hs he hQ
    · cases h
  | cond c a b iha ihb =>
    intro x h hr
    simp only [prepCode] at h
    split at h
    · rename_i hok
      split at h
      · rename_i xa xb ha hb
        cases h
        have hra : r = none ∨ plainC xa = true := hr.imp (fun h => h) fun h => by simp only [plainC, Bool.and_eq_true] at h; exact h.1
        have hrb : r = none ∨ plainC xb = true := hr.imp (fun h => h) fun h => by simp only [plainC, Bool.and_eq_true] at h; exact h.2
        refine ⟨fun s s' e act w Q hs he hQ => ?_, fun l rest h => by cases h⟩
        have hs' := hs
        obtain ⟨G, h0, hW, hT, hD, hwf⟩ := hs'
        have hrep := eval_rep hT hok
        simp only [evalC] at he
        split at he
        · rename_i hc
          rw [hc] at hrep
          generalize hv : act.eval c = vc at hrep
          cases hrep
          exact wpIn_cond_true hv ((iha xa ha hra).1 s s' e act w Q hs he hQ)
        · rename_i hc
          rw [hc] at hrep
          generalize hv : act.eval c = vc at hrep
          cases hrep
          exact wpIn_cond_false hv ((ihb xb hb hrb).1 s s' e act w Q hs he hQ)
        · cases he
      · cases h
    · cases h
  | block id c ih =>
    intro x h hr
    simp only [prepCode, Option.map_eq_some_iff] at h
    obtain ⟨xc, hc, rfl⟩ := h
    have hrc : r = none ∨ plainC xc = true := hr.imp (fun h => h) fun h => by simpa only [plainC] using h
    refine ⟨fun s s' e act w Q hs he hQ => ?_, fun l rest h => by cases h⟩
    refine wpIn_block ?_
    simp only [evalC] at he
    split at he
    · rename_i id' s1 h1
      refine (ih xc hc hrc).1 s s1 (.exit id') act w _ hs h1 (fun a' w' hs1 => ?_)
      simp only [exOf, Exit.inBlock]
      split at he
      · rename_i hid
        cases he
        rw [if_pos hid]; exact hQ _ _ hs1
      · rename_i hid
        cases he
        rw [if_neg hid]; exact hQ _ _ hs1
    · rename_i hne
      refine (ih xc hc hrc).1 s s' e act w _ hs he (fun a' w' hs1 => ?_)
      cases e with
      | exit id' => exact absurd he (hne _ _)
      | _ => exact hQ _ _ hs1
  | loop c ih =>
    intro x h hr
    simp only [prepCode, Option.map_eq_some_iff] at h
    obtain ⟨xc, hc, rfl⟩ := h
    have hrc : r = none ∨ plainC xc = true := hr.imp (fun h => h) fun h => by simpa only [plainC] using h
    exact ⟨loop_ok (ih xc hc hrc).1, fun l rest h => by cases h⟩
  | rangeFunc f ps a b iha ihb =>
    intro x h hr
    simp only [prepCode] at h
    split at h
    · rename_i hok
      split at h
      · rename_i xa xb ha hb
        split at h
        · rename_i hpl
          simp only [Bool.and_eq_true] at hpl
          cases h
          have hrn : r = none := hr.resolve_right (by simp [plainC])
          subst hrn
          exact ⟨rangeFunc_ok hcall hok ⟨⟨_, ha⟩, hpl.1⟩ ⟨⟨_, hb⟩, hpl.2⟩, fun l rest h => by cases h⟩
        · cases h
      · cases h
    · cases h
  | exit id =>
    intro x h hr
    simp only [prepCode] at h
    cases h
    refine ⟨fun s s' e a w Q hs he hQ => ?_, fun l rest h => by cases h⟩
    simp only [evalC] at he
    cases he
    exact wpIn_exit (hQ _ _ hs)
  | scope c ih =>
    intro x h hr
    simp only [prepCode, Option.map_eq_some_iff] at h
    obtain ⟨xc, hc, rfl⟩ := h
    have hrc : r = none ∨ plainC xc = true := hr.imp (fun h => h) fun h => by simpa only [plainC] using h
    obtain ⟨c1, c2⟩ := ih xc hc hrc
    exact ⟨scope_ok (hasL_find c xc hc) c1 c2, fun l rest h => by cases h⟩
  | label l' =>
    intro x h hr
    simp only [prepCode] at h
    cases h
    refine ⟨fun s s' e a w Q hs he hQ => ?_, fun l rest h s s' e a w Q hs he hQ => ?_⟩
    · simp only [evalC] at he
      cases he
      exact wpIn_label (hQ _ _ hs)
    · simp only [evalC] at he
      cases he
      simp only [findLabel] at h
      split at h
      · cases h; exact wpIn_skip (hQ _ _ hs)
      · cases h
  | goto l =>
    intro x h hr
    simp only [prepCode] at h
    cases h
    refine ⟨fun s s' e a w Q hs he hQ => ?_, fun l rest h => by cases h⟩
    simp only [evalC] at he
    cases he
    exact wpIn_goto (hQ _ _ hs)
  | ret =>
    intro x h hr
    simp only [prepCode] at h
    cases h
    refine ⟨fun s s' e a w Q hs he hQ => ?_, fun l rest h => by cases h⟩
    simp only [evalC] at he
    cases he
    exact wpIn_ret (hQ _ _ hs)
  | refuse t =>
    intro x h hr
    simp only [prepCode] at h
    cases h
    refine ⟨fun s s' e a w Q hs he hQ => ?_, fun l rest h => by cases h⟩
    simp only [evalC] at he
    cases he

end

end Go.Abs
