/-
  THE KERNEL'S EVALUATOR ANSWERS AS THE ABSTRACT MACHINE'S.
-/
import Derived.Test.YtpkgbbkhipkepaaGreatAbsFast
namespace Go.Abs

/-- One caller answers where the other does, alike. -/
def Sub (a b : Caller) : Prop := ∀ c as H r, a c as H = some r → b c as H = some r

section
variable {f call : Caller} {N : Nat} {σ : List AV} {E : En}

theorem evF_fun (h : RE N σ E) : (fun x => evF E (toFO x)) = evalO σ := funext (evF_eq h)

theorem wantK_eq (h : RE N σ E) (g : Option (Tmp × Bool)) : wantK E (g.map fun (t, b) => (toPa t, b)) = wanted σ g := by
  cases g with
  | none => rfl
  | some p =>
    obtain ⟨t, b⟩ := p
    show boolK (getP (toPa t) E) b (!b) false = _
    rw [h.get t]
    simp only [wanted]
    unfold boolK
    generalize σ.getD t .und = x
    cases x with
    | lit v => cases v with
      | bool c => cases b <;> cases c <;> rfl
      | _ => rfl
    | _ => rfl

theorem RE.put (h : RE N σ E) {d : Option Tmp} (hd : ∀ t, d = some t → t < N) (v : AV) : RE N (put σ d v) (putK E (d.map toPa) v) := by
  cases d with
  | none => exact h
  | some t => exact h.set (hd t rfl) v

theorem resolveK_eq (h : RE N σ E) (x : Operand) (args : List Operand) : resolveK E (toFO x) (args.map toFO) = resolveA σ x args := by
  unfold resolveK resolveA
  rw [evF_eq h, List.map_map]
  have : (evF E ∘ toFO) = evalO σ := evF_fun h
  rw [this]
  rfl

theorem got_spec {ds : List ADef} {dst : Option Pa} {k : Run} {r : Option (AV × AH)} {e : AEx} {E2 : En} {H2 : AH} {ds2 : List ADef} (h : got E ds dst k r = .ok e E2 H2 ds2) : ∃ v H, r = some (v, H) ∧ k (putK E dst v) H ds = .ok e E2 H2 ds2 := by
  cases r with
  | none => cases h
  | some p => obtain ⟨v, H⟩ := p; exact ⟨v, H, rfl, h⟩

theorem stepK_ok (hs : Sub f call) (hE : RE N σ E) {o : AOper} (hd : ∀ t, o.dst = some t → t < N) {k : Run} {H : AH} {ds : List ADef} {e : AEx} {E2 : En} {H2 : AH} {ds2 : List ADef} (h : stepK f (toFOper o) k E H ds = .ok e E2 H2 ds2) :
    ∃ s1 E1, evalOp call o ⟨σ, H, ds⟩ = some s1 ∧ RE N s1.σ E1 ∧ k E1 s1.H s1.ds = .ok e E2 H2 ds2 := by
  unfold stepK at h
  have hw : wantK E (toFOper o).guard = wanted σ o.guard := wantK_eq hE o.guard
  rw [hw] at h
  unfold evalOp
  cases hwn : wanted σ o.guard with
  | false =>
    rw [hwn] at h
    exact ⟨⟨put σ o.dst .und, H, ds⟩, putK E (o.dst.map toPa) .und, by simp, hE.put hd .und, h⟩
  | true =>
    rw [hwn] at h
    simp only [if_true]
    change doOp f (o.dst.map toPa) k (toFK o.op) E H ds = _ at h
    cases hop : o.op with
    | call g args =>
      rw [hop] at h
      change Option.rec (motive := fun _ => Rs) _ _ (resolveK E (toFO g) (args.map toFO)) = _ at h
      rw [resolveK_eq hE] at h
      simp only
      cases hr : resolveA σ g args with
      | none => rw [hr] at h; cases h
      | some p =>
        obtain ⟨c, as⟩ := p
        rw [hr] at h
        obtain ⟨v, H1, e1, e2⟩ := got_spec h
        simp only [hs _ _ _ _ e1]
        exact ⟨_, _, rfl, hE.put hd v, e2⟩
    | defer g args =>
      rw [hop] at h
      change Option.rec (motive := fun _ => Rs) _ _ (resolveK E (toFO g) (args.map toFO)) = _ at h
      rw [resolveK_eq hE] at h
      simp only
      cases hr : resolveA σ g args with
      | none => rw [hr] at h; cases h
      | some p =>
        obtain ⟨c, as⟩ := p
        rw [hr] at h
        cases c with
        | f q => exact ⟨_, _, rfl, hE.put hd .und, h⟩
        | y q => cases h
        | d q => cases h
    | _ =>
      have hk : toFK o.op = .op (o.op.toG toFO) := by rw [hop]; rfl
      rw [hk] at h
      change got E ds (o.dst.map toPa) k (aopG (o.op.toG toFO) (evF E) H) = _ at h
      rw [aopG_eq (evF_eq hE), hop] at h
      obtain ⟨v, H1, e1, e2⟩ := got_spec h
      simp only [e1]
      exact ⟨_, _, rfl, hE.put hd v, e2⟩

def GoodDst (N : Nat) (ops : List AOper) : Prop := ∀ o ∈ ops, ∀ t, o.dst = some t → t < N

theorem goodOps_spec {ops : List AOper} (h : goodOps N ops = true) : GoodDst N ops := by
  intro o ho t ht
  have := List.all_eq_true.1 h o ho
  rw [ht] at this
  exact Nat.le_of_ble_eq_true this

theorem opsK_ok (hs : Sub f call) : ∀ (ops : List AOper) (σ : List AV) (E : En) (H : AH) (ds : List ADef) {e : AEx} {E2 : En} {H2 : AH} {ds2 : List ADef}, GoodDst N ops → RE N σ E → opsK f (ops.map toFOper) E H ds = .ok e E2 H2 ds2 →
    ∃ s', evalOps call ops ⟨σ, H, ds⟩ = some s' ∧ RE N s'.σ E2 ∧ s'.H = H2 ∧ s'.ds = ds2 ∧ e = .normal := by
  intro ops
  induction ops with
  | nil =>
    intro σ E H ds e E2 H2 ds2 _ hE h
    cases h
    exact ⟨_, rfl, hE, rfl, rfl, rfl⟩
  | cons o ops ih =>
    intro σ E H ds e E2 H2 ds2 hg hE h
    obtain ⟨s1, E1, h1, h2, h3⟩ := stepK_ok hs hE (hg o (by simp)) (k := opsK f (ops.map toFOper)) h
    obtain ⟨s', g1, g2⟩ := ih s1.σ E1 s1.H s1.ds (fun o' ho' => hg o' (List.mem_cons_of_mem _ ho')) h2 h3
    exact ⟨s', by simp only [evalOps, h1]; exact g1, g2⟩

theorem toFK_silent {op : AOp} (h : op.chain = false) : toFK op = .op (op.toG toFO) := by
  cases op <;> first | rfl | (cases h)

theorem backsK_eq (hE : RE N σ E) (o : AOper) (v : AV) (hist : List AH) : backsK (toFOper o) (o.op.toG toFO) E v hist = backs o.op σ v hist := by
  unfold backsK backs
  have h1 : ((toFOper o).reads.all fun x => (named (evF E x)).isNone) = o.op.reads.all fun x => (named (evalO σ x)).isNone := by
    show (List.map toFO o.op.reads).all _ = _
    rw [List.all_map]
    congr 1
    funext x
    simp only [Function.comp_apply, evF_eq hE]
  have h2 : ∀ H, aopG (o.op.toG toFO) (evF E) H = aop σ H o.op := fun H => aopG_eq (evF_eq hE) H o.op
  rw [h1]
  simp only [h2]
  rfl

theorem drawK_ok (hs : Sub f call) {base : Nat} : ∀ (ops : List AOper) (σ : List AV) (E : En) (H : AH) (ds : List ADef) (hist : List AH) {e : AEx} {E2 : En} {H2 : AH} {ds2 : List ADef}, GoodDst N ops → RE N σ E → drawK f base (ops.map toFOper) hist E H ds = .ok e E2 H2 ds2 →
    ∃ s', evalDraw call base ops ⟨σ, H, ds⟩ hist = some s' ∧ RE N s'.σ E2 ∧ s'.H = H2 ∧ s'.ds = ds2 ∧ e = .normal := by
  intro ops
  induction ops with
  | nil =>
    intro σ E H ds hist e E2 H2 ds2 _ hE h
    cases h
    exact ⟨_, rfl, hE, rfl, rfl, rfl⟩
  | cons o ops ih =>
    intro σ E H ds hist e E2 H2 ds2 hg hE h
    have hg' : GoodDst N ops := fun o' ho' => hg o' (List.mem_cons_of_mem _ ho')
    change Bool.rec (motive := fun _ => Rs) (silentK base (toFOper o) hist (drawK f base (ops.map toFOper) hist) E H ds) (stepK f (toFOper o) (drawK f base (ops.map toFOper) (H :: hist)) E H ds) o.op.chain = _ at h
    simp only [evalDraw]
    cases hc : o.op.chain with
    | true =>
      rw [hc] at h
      obtain ⟨s1, E1, h1, h2, h3⟩ := stepK_ok hs hE (hg o (by simp)) h
      obtain ⟨s', g1, g2⟩ := ih s1.σ E1 s1.H s1.ds (H :: hist) hg' h2 h3
      exact ⟨s', by simp only [if_true, h1]; exact g1, g2⟩
    | false =>
      rw [hc] at h
      simp only [Bool.false_eq_true, if_false]
      change silentK base (toFOper o) hist _ E H ds = _ at h
      unfold silentK at h
      have hw : wantK E (toFOper o).guard = wanted σ o.guard := wantK_eq hE o.guard
      rw [hw] at h
      cases hwn : wanted σ o.guard with
      | false =>
        rw [hwn] at h
        obtain ⟨s', g1, g2⟩ := ih (put σ o.dst .und) _ H ds hist hg' (hE.put (hg o (by simp)) .und) h
        exact ⟨s', by simpa using g1, g2⟩
      | true =>
        rw [hwn] at h
        simp only [if_true]
        change Bool.rec (motive := fun _ => Rs) _ _ (o.op.makes && Nat.ble H.n (base + o.idx)) = _ at h
        cases hm : (o.op.makes && Nat.ble H.n (base + o.idx)) with
        | true => rw [hm] at h; cases h
        | false =>
          rw [hm] at h
          simp only [Bool.false_eq_true, if_false]
          have hk : (toFOper o).kind = .op (o.op.toG toFO) := toFK_silent hc
          rw [hk] at h
          change gotD (toFOper o) (o.op.toG toFO) E H.n hist ds _ (aopG (o.op.toG toFO) (evF E) ⟨base + o.idx, H.t⟩) = _ at h
          rw [aopG_eq (evF_eq hE)] at h
          cases ha : aop σ ⟨base + o.idx, H.t⟩ o.op with
          | none => rw [ha] at h; cases h
          | some p =>
            obtain ⟨v, H1⟩ := p
            rw [ha] at h
            change Bool.rec (motive := fun _ => Rs) _ _ (backsK (toFOper o) (o.op.toG toFO) E v (hist.take o.back)) = _ at h
            rw [backsK_eq hE] at h
            cases hb : backs o.op σ v (hist.take o.back) with
            | false => rw [hb] at h; cases h
            | true =>
              rw [hb] at h
              obtain ⟨s', g1, g2⟩ := ih (put σ o.dst v) _ ⟨H.n, H1.t⟩ ds hist hg' (hE.put (hg o (by simp)) v) h
              exact ⟨s', by simpa [hb] using g1, g2⟩

theorem resK_eq : ∀ n H, resK n H = reserve n H := by
  intro n
  induction n with
  | zero => intro H; rfl
  | succ n ih => intro H; rw [resK, reserve, ih, AH.pushK_eq]

/-- What a run of code answers. -/
def Ans (_call : Caller) (N : Nat) (ev : ASt → Option (AEx × ASt)) (r : Run) : Prop :=
  ∀ (σ : List AV) (E : En) (H : AH) (ds : List ADef) (e : AEx) (E2 : En) (H2 : AH) (ds2 : List ADef), RE N σ E → r E H ds = .ok e E2 H2 ds2 → ∃ σ', RE N σ' E2 ∧ ev ⟨σ, H, ds⟩ = some (e, ⟨σ', H2, ds2⟩)

theorem loopK_ok {ev : ASt → Option (AEx × ASt)} {r : Run} (h : Ans call N ev r) : ∀ n, Ans call N (loopA ev n) (loopK r n) := by
  intro n
  induction n with
  | zero => intro σ E H ds e E2 H2 ds2 _ hr; cases hr
  | succ n ih =>
    intro σ E H ds e E2 H2 ds2 hE hr
    change loopNext (loopK r n) (r E H ds) = _ at hr
    cases hb : r E H ds with
    | fail => rw [hb] at hr; cases hr
    | ok e1 E1 H1 ds1 =>
      rw [hb] at hr
      obtain ⟨σ1, g1, g2⟩ := h σ E H ds e1 E1 H1 ds1 hE hb
      simp only [loopA, g2]
      cases e1 with
      | normal => exact ih σ1 E1 H1 ds1 e E2 H2 ds2 g1 hr
      | exit id => cases hr; exact ⟨σ1, g1, rfl⟩
      | goto l => cases hr; exact ⟨σ1, g1, rfl⟩
      | ret => cases hr; exact ⟨σ1, g1, rfl⟩

theorem scopeK_ok {has : Nat → Bool} {ev : Option Nat → ASt → Option (AEx × ASt)} {r : Option Nat → Run} (h : ∀ st, Ans call N (ev st) (r st)) : ∀ n st, Ans call N (scopeA has ev n st) (scopeK has r n st) := by
  intro n
  induction n with
  | zero => intro st σ E H ds e E2 H2 ds2 _ hr; cases hr
  | succ n ih =>
    intro st σ E H ds e E2 H2 ds2 hE hr
    change scopeNext has (scopeK has r n) (r st E H ds) = _ at hr
    cases hb : r st E H ds with
    | fail => rw [hb] at hr; cases hr
    | ok e1 E1 H1 ds1 =>
      rw [hb] at hr
      obtain ⟨σ1, g1, g2⟩ := h st σ E H ds e1 E1 H1 ds1 hE hb
      simp only [scopeA, g2]
      cases e1 with
      | normal => cases hr; exact ⟨σ1, g1, rfl⟩
      | exit id => cases hr; exact ⟨σ1, g1, rfl⟩
      | goto l =>
        change Bool.rec (motive := fun _ => Rs) _ _ (has l) = _ at hr
        cases hh : has l with
        | true =>
          rw [hh] at hr
          simp only [hh, if_true]
          exact ih (some l) σ1 E1 H1 ds1 e E2 H2 ds2 g1 hr
        | false =>
          rw [hh] at hr
          cases hr
          exact ⟨σ1, g1, by simp only [hh, Bool.false_eq_true, if_false]⟩
      | ret => cases hr; exact ⟨σ1, g1, rfl⟩

theorem listE_eq (hE : RE N σ E) : listE N (fun i => getP (toPa i) E) = σ := by
  unfold listE
  apply List.ext_getElem
  · simp [hE.len]
  · intro i h1 h2
    simp [hE.get, List.getD_eq_getElem?_getD, List.getElem?_eq_getElem h2]

theorem noL_spec {r : Run} {st : Option Nat} {E : En} {H : AH} {ds : List ADef} {e : AEx} {E2 : En} {H2 : AH} {ds2 : List ADef} (h : noL r st E H ds = .ok e E2 H2 ds2) : st = none ∧ r E H ds = .ok e E2 H2 ds2 := by
  cases st with
  | none => exact ⟨rfl, h⟩
  | some l => cases h

theorem rangeK_ok (hs : Sub f call) {lim : Nat} {x : Operand} {ps : List Tmp} {a b : ACode} : Ans call N (evalC call lim (.rangeFunc x ps a b) none) (rangeK f N (toFO x) ps a b) := by
  intro σ E H ds e E2 H2 ds2 hE h
  unfold rangeK at h
  rw [evF_eq hE] at h
  simp only [AH.pushK_eq, AH.getK_eq, AH.setK_eq, listE_eq hE] at h
  simp only [evalC]
  cases hx : evalO σ x <;> rw [hx] at h <;> try (cases h; done)
  rename_i g first captured
  simp only at h ⊢
  cases hc : f (.f g) (first ++ [.yld (H.n + 1)] ++ captured) ((H.push .dfr).push (.loop .ready none g σ ps a b)) with
  | none => rw [hc] at h; cases h
  | some p =>
    obtain ⟨rv, Hc⟩ := p
    rw [hc] at h
    simp only [hs _ _ _ _ hc]
    simp only at h
    cases hg : Hc.get (H.n + 1) with
    | none => rw [hg] at h; cases h
    | some y =>
      rw [hg] at h
      cases y <;> try (cases h; done)
      rename_i st pending f2 σ2 ps2 x2 y2
      simp only at h ⊢
      split at h
      · cases h
      · rename_i hb
        rw [if_neg hb]
        split at h <;> first | (cases h; exact ⟨σ, hE, rfl⟩) | cases h

theorem evK_ok (hs : Sub f call) {lim : Nat} : ∀ (x : ACode) (st : Option Nat), Ans call N (evalC call lim x st) (evK f lim N (toF N x) st) := by
  intro x
  induction x with
  | skip =>
    intro st σ E H ds e E2 H2 ds2 hE h
    obtain ⟨rfl, h⟩ := noL_spec h
    cases h
    exact ⟨σ, hE, rfl⟩
  | region id ops draw =>
    intro st σ E H ds e E2 H2 ds2 hE h
    obtain ⟨rfl, h⟩ := noL_spec h
    simp only [evalC]
    change Bool.rec (motive := fun _ => Run) (fun _ _ _ => .fail) (Bool.rec (motive := fun _ => Run) (opsK f (ops.map toFOper)) (fun E H ds => drawK f H.n (ops.map toFOper) [] E (resK (slots ops) H) ds) draw) (goodOps N ops) E H ds = _ at h
    cases hg : goodOps N ops with
    | false => rw [hg] at h; cases h
    | true =>
      rw [hg] at h
      cases draw with
      | false =>
        obtain ⟨s', g1, g2, rfl, rfl, rfl⟩ := opsK_ok hs ops σ E H ds (goodOps_spec hg) hE h
        exact ⟨s'.σ, g2, by simp [g1]⟩
      | true =>
        change drawK f H.n (ops.map toFOper) [] E (resK (slots ops) H) ds = _ at h
        rw [resK_eq] at h
        obtain ⟨s', g1, g2, rfl, rfl, rfl⟩ := drawK_ok hs ops σ E (reserve (slots ops) H) ds [] (goodOps_spec hg) hE h
        exact ⟨s'.σ, g2, by simp [g1]⟩
  | seq a b iha ihb =>
    have both : ∀ st, Ans call N (fun s => match evalC call lim a st s with
        | some (.normal, s') => evalC call lim b none s'
        | r => r) (fun E H ds => seqK (evK f lim N (toF N b)) (evK f lim N (toF N a) st E H ds)) := by
      intro st σ E H ds e E2 H2 ds2 hE h
      simp only at h
      cases hb : evK f lim N (toF N a) st E H ds with
      | fail => rw [hb] at h; cases h
      | ok e1 E1 H1 ds1 =>
        rw [hb] at h
        obtain ⟨σ1, g1, g2⟩ := iha st σ E H ds e1 E1 H1 ds1 hE hb
        simp only [g2]
        cases e1 with
        | normal => exact ihb none σ1 E1 H1 ds1 e E2 H2 ds2 g1 h
        | exit id => cases h; exact ⟨σ1, g1, rfl⟩
        | goto l => cases h; exact ⟨σ1, g1, rfl⟩
        | ret => cases h; exact ⟨σ1, g1, rfl⟩
    intro st σ E H ds e E2 H2 ds2 hE h
    cases st with
    | none =>
      obtain ⟨σ', g1, g2⟩ := both none σ E H ds e E2 H2 ds2 hE h
      exact ⟨σ', g1, by simp only [evalC]; exact g2⟩
    | some l =>
      change Bool.rec (motive := fun _ => Rs) (evK f lim N (toF N b) (some l) E H ds) (seqK (evK f lim N (toF N b)) (evK f lim N (toF N a) (some l) E H ds)) (hasL a l) = _ at h
      simp only [evalC]
      cases hh : hasL a l with
      | true =>
        rw [hh] at h
        obtain ⟨σ', g1, g2⟩ := both (some l) σ E H ds e E2 H2 ds2 hE h
        exact ⟨σ', g1, by simp only [if_true]; exact g2⟩
      | false =>
        rw [hh] at h
        obtain ⟨σ', g1, g2⟩ := ihb (some l) σ E H ds e E2 H2 ds2 hE h
        exact ⟨σ', g1, by simp only [Bool.false_eq_true, if_false]; exact g2⟩
  | cond c a b iha ihb =>
    intro st σ E H ds e E2 H2 ds2 hE h
    change noL (fun E H ds => boolK (evF E (toFO c)) (evK f lim N (toF N a) none E H ds) (evK f lim N (toF N b) none E H ds) .fail) st E H ds = _ at h
    obtain ⟨rfl, h⟩ := noL_spec h
    change boolK (evF E (toFO c)) (evK f lim N (toF N a) none E H ds) (evK f lim N (toF N b) none E H ds) .fail = _ at h
    rw [evF_eq hE] at h
    simp only [evalC]
    unfold boolK at h
    cases hx : evalO σ c <;> rw [hx] at h <;> try (cases h; done)
    rename_i v
    cases v <;> try (cases h; done)
    rename_i t
    cases t with
    | true => exact iha none σ E H ds e E2 H2 ds2 hE h
    | false => exact ihb none σ E H ds e E2 H2 ds2 hE h
  | block id c ih =>
    intro st σ E H ds e E2 H2 ds2 hE h
    change noL (fun E H ds => blockK id (evK f lim N (toF N c) none E H ds)) st E H ds = _ at h
    obtain ⟨rfl, h⟩ := noL_spec h
    change blockK id (evK f lim N (toF N c) none E H ds) = _ at h
    simp only [evalC]
    cases hb : evK f lim N (toF N c) none E H ds with
    | fail => rw [hb] at h; cases h
    | ok e1 E1 H1 ds1 =>
      rw [hb] at h
      obtain ⟨σ1, g1, g2⟩ := ih none σ E H ds e1 E1 H1 ds1 hE hb
      simp only [g2]
      cases e1 with
      | normal => cases h; exact ⟨σ1, g1, rfl⟩
      | exit id' =>
        change Bool.rec (motive := fun _ => Rs) _ _ (Nat.beq id' id) = _ at h
        cases hi : Nat.beq id' id with
        | true =>
          rw [hi] at h
          cases h
          exact ⟨σ1, g1, by simp only [if_pos (Nat.eq_of_beq_eq_true hi)]⟩
        | false =>
          rw [hi] at h
          cases h
          exact ⟨σ1, g1, by simp only [if_neg (Nat.ne_of_beq_eq_false hi)]⟩
      | goto l => cases h; exact ⟨σ1, g1, rfl⟩
      | ret => cases h; exact ⟨σ1, g1, rfl⟩
  | loop c ih =>
    intro st σ E H ds e E2 H2 ds2 hE h
    obtain ⟨rfl, h⟩ := noL_spec h
    simp only [evalC]
    exact loopK_ok (ih none) lim σ E H ds e E2 H2 ds2 hE h
  | rangeFunc x ps a b iha ihb =>
    intro st σ E H ds e E2 H2 ds2 hE h
    obtain ⟨rfl, h⟩ := noL_spec h
    exact rangeK_ok hs σ E H ds e E2 H2 ds2 hE h
  | exit id =>
    intro st σ E H ds e E2 H2 ds2 hE h
    obtain ⟨rfl, h⟩ := noL_spec h
    cases h
    exact ⟨σ, hE, rfl⟩
  | scope c ih =>
    intro st σ E H ds e E2 H2 ds2 hE h
    obtain ⟨rfl, h⟩ := noL_spec h
    simp only [evalC]
    exact scopeK_ok ih lim none σ E H ds e E2 H2 ds2 hE h
  | label l =>
    intro st σ E H ds e E2 H2 ds2 hE h
    cases h
    exact ⟨σ, hE, by simp only [evalC]⟩
  | goto l =>
    intro st σ E H ds e E2 H2 ds2 hE h
    obtain ⟨rfl, h⟩ := noL_spec h
    cases h
    exact ⟨σ, hE, rfl⟩
  | ret =>
    intro st σ E H ds e E2 H2 ds2 hE h
    obtain ⟨rfl, h⟩ := noL_spec h
    cases h
    exact ⟨σ, hE, rfl⟩
  | refuse =>
    intro st σ E H ds e E2 H2 ds2 hE h
    cases h

/-! ### Calls -/
theorem setAll_get : ∀ (vs : List AV) (i : Nat) (E : En) (j : Nat), getP (toPa j) (setAll vs i E) = if i ≤ j ∧ j < i + vs.length then vs.getD (j - i) .und else getP (toPa j) E := by
  intro vs
  induction vs with
  | nil => intro i E j; simp [setAll]; omega
  | cons v vs ih =>
    intro i E j
    rw [setAll, ih]
    by_cases h1 : i + 1 ≤ j ∧ j < i + 1 + vs.length
    · rw [if_pos h1, if_pos (by simp; omega)]
      obtain ⟨m, hm⟩ : ∃ m, j - i = m + 1 := ⟨j - i - 1, by omega⟩
      rw [hm, show j - (i + 1) = m by omega]
      simp
    · rw [if_neg h1]
      by_cases h2 : j = i
      · subst h2
        rw [(get_setP _ _ v E).1 rfl, if_pos (by simp)]
        simp
      · rw [(get_setP _ _ v E).2 (fun hp => h2 (toPa_inj _ _ hp).symm), if_neg (by simp; omega)]

theorem RE_args {as : List AV} (h : as.length ≤ N) : RE N (as ++ List.replicate (N - as.length) .und) (setAll as 0 .leaf) := by
  refine ⟨by simp; omega, fun i => ?_⟩
  rw [setAll_get, getP_leaf]
  split
  · rename_i hi
    simp [List.getD_eq_getElem?_getD, List.getElem?_append, show i < as.length by omega]
  · rename_i hi
    have : ¬ i < as.length := by omega
    simp [List.getD_eq_getElem?_getD, List.getElem?_append, this, List.getElem?_replicate]
    split <;> rfl

theorem resultsK_eq {H : AH} (hE : RE N σ E) : ∀ rs, resultsK H E rs = resultsA H σ rs := by
  intro rs
  induction rs with
  | nil => rfl
  | cons p rs ih =>
    obtain ⟨t, o⟩ := p
    cases o with
    | none => simp only [resultsK, resultsA, ih, hE.get]
    | some n =>
      simp only [resultsK, resultsA, ih, hE.get, loadFromK_eq]
      rfl

theorem leaveK_ok (hs : Sub f call) : ∀ (ds : List ADef) (H H' : AH), leaveK f ds H = some H' → leaveA call ds H = some H' := by
  intro ds
  induction ds with
  | nil => intro H H' h; exact h
  | cons d ds ih =>
    intro H H' h
    cases d with
    | mark o =>
      simp only [leaveK, AH.getK_eq, AH.setK_eq] at h
      simp only [leaveA]
      split at h
      · rename_i hg
        simp only [hg]
        exact ih _ _ h
      · cases h
    | call g args =>
      simp only [leaveK] at h
      simp only [leaveA]
      split at h
      · rename_i hc
        simp only [hs _ _ _ _ hc]
        exact ih _ _ h
      · cases h

theorem enterK_ok (hs : Sub f call) {lim : Nat} {fn : AFunc} {as : List AV} {H : AH} {e : AEx} {E2 : En} {H2 : AH} {ds2 : List ADef} (h : enterK f lim fn as H = .ok e E2 H2 ds2) :
    ∃ σ', RE fn.ntmps σ' E2 ∧ evalC call lim fn.body none { σ := as ++ List.replicate (fn.ntmps - as.length) .und, H, ds := [] } = some (e, ⟨σ', H2, ds2⟩) := by
  unfold enterK at h
  split at h
  · rename_i hl
    exact evK_ok hs fn.body none _ _ _ _ e E2 H2 ds2 (RE_args hl) h
  · cases h

end

theorem foldl_set_len : ∀ (l : List (Tmp × AV)) (σ : List AV), (l.foldl (fun σ (t, v) => σ.set t v) σ).length = σ.length := by
  intro l
  induction l with
  | nil => intro σ; rfl
  | cons p l ih => intro σ; rw [List.foldl_cons, ih]; simp

theorem callK_ok {A : FuncId → Option AFunc} : ∀ n, Sub (callK A n) (callN A n) := by
  intro n
  induction n with
  | zero => intro c as H r h; cases h
  | succ n ih =>
    intro c as H r h
    change callStep A n (callK A n) c as H = _ at h
    cases c with
    | f g =>
      change Option.rec (motive := fun _ => Option (AV × AH)) _ _ (A g) = _ at h
      simp only [callN]
      cases hA : A g with
      | none => rw [hA] at h; cases h
      | some fn =>
        rw [hA] at h
        change endK (callK A n) fn (enterK (callK A n) n fn as H) = _ at h
        cases he : enterK (callK A n) n fn as H with
        | fail => rw [he] at h; cases h
        | ok e E2 H2 ds2 =>
          rw [he] at h
          obtain ⟨σ', g1, g2⟩ := enterK_ok ih he
          simp only [g2]
          simp only [endK] at h
          split at h
          · rename_i hex
            rw [if_pos hex]
            split at h
            · rename_i H' hl
              simp only [leaveK_ok ih _ _ _ hl]
              rw [resultsK_eq g1] at h
              split at h
              · rename_i vs hv
                simp only [hv]
                rw [freezeK_eq] at h
                exact h
              · cases h
            · cases h
          · cases h
    | d g =>
      change Option.rec (motive := fun _ => Option (AV × AH)) _ _ (A g) = _ at h
      simp only [callN]
      cases hA : A g with
      | none => rw [hA] at h; cases h
      | some fn =>
        rw [hA] at h
        change endD fn (enterK (callK A n) n fn as H) = _ at h
        cases he : enterK (callK A n) n fn as H with
        | fail => rw [he] at h; cases h
        | ok e E2 H2 ds2 =>
          rw [he] at h
          obtain ⟨σ', g1, g2⟩ := enterK_ok ih he
          simp only [g2]
          simp only [endD] at h
          split at h
          · rename_i hex
            rw [if_pos hex]
            rw [resultsK_eq g1] at h
            exact h
          · cases h
    | y o =>
      change roundK (callK A n) n o as H = _ at h
      unfold roundK at h
      simp only [AH.getK_eq, AH.setK_eq] at h
      simp only [callN]
      split at h
      · rename_i g σ ps a b hg
        simp only [hg]
        split at h
        · rename_i hl
          rw [if_pos hl]
          have hlen : ((ps.zip as).foldl (fun σ (t, v) => σ.set t v) σ).length = σ.length := foldl_set_len _ _
          have hRE : RE σ.length ((ps.zip as).foldl (fun σ (t, v) => σ.set t v) σ) (setAll ((ps.zip as).foldl (fun σ (t, v) => σ.set t v) σ) 0 .leaf) := by
            have := RE_args (N := σ.length) (as := (ps.zip as).foldl (fun σ (t, v) => σ.set t v) σ) (by omega)
            rw [hlen] at this
            simpa using this
          split at h
          · rename_i E1 H1 ds1 h1
            obtain ⟨σ1, g1, g2⟩ := evK_ok ih a none _ _ _ _ _ _ _ _ hRE h1
            simp only [g2]
            split at h
            · rename_i gg2 σ2 ps2 a2 b2 hg2
              simp only [hg2]
              split at h
              · rename_i e E3 H3 ds3 h2
                obtain ⟨σ3, k1, k2⟩ := evK_ok ih b none _ _ _ _ _ _ _ _ g1 h2
                simp only [k2]
                exact h
              · cases h
            · cases h
          · cases h
        · cases h
      · cases h

end Go.Abs
