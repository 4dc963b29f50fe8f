/-
  A REGION THAT DRAWS ITS ORDER: the step of a silent operation.
-/
import Derived.Test.YtpkgbbkhipkepaaGreatAbsInv
namespace Go.Abs
open Go.RowKit

variable {P : Program} {n0 : Fr P} {w0 : World} {G G0 : Gh} {H H' : AH} {w : World} {σ : List AV} {v : AV}

theorem litBeq_ok {u v : Value} (h : litBeq u v = true) : u = v := by
  unfold litBeq at h
  split at h
  · simp only [Bool.and_eq_true, beq_iff_eq] at h; obtain ⟨rfl, rfl⟩ := h; rfl
  · have := beq_iff_eq.1 h; subst this; rfl
  · rw [← bytes_beq'] at h
    have := (MapKept.bytes_beq _ _).1 h
    subst this; rfl
  · rfl
  · simp only [Bool.and_eq_true, beq_iff_eq] at h; obtain ⟨rfl, rfl⟩ := h; rfl
  · rfl
  · rfl
  · rfl
  · cases h

theorem allB_ok {f : AV → AV → Bool} (hf : ∀ x y, f x y = true → x = y) : ∀ (xs ys : List AV), allB f xs ys = true → xs = ys := by
  intro xs
  induction xs with
  | nil => intro ys h; cases ys with
    | nil => rfl
    | cons => cases h
  | cons x xs ih => intro ys h; cases ys with
    | nil => cases h
    | cons y ys =>
      simp only [allB, Bool.and_eq_true] at h
      rw [hf _ _ h.1, ih _ h.2]

theorem avBeq_ok : ∀ (n : Nat) (x y : AV), avBeq n x y = true → x = y := by
  intro n
  induction n with
  | zero => intro x y h; cases h
  | succ n ih =>
    intro x y h
    unfold avBeq at h
    split at h
    · rw [litBeq_ok h]
    · simp only [Bool.and_eq_true, beq_iff_eq] at h; obtain ⟨⟨rfl, rfl⟩, rfl⟩ := h; rfl
    · rw [allB_ok ih _ _ h]
    · simp only [Bool.and_eq_true, beq_iff_eq, decide_eq_true_eq] at h; obtain ⟨⟨rfl, rfl⟩, h⟩ := h; rw [allB_ok ih _ _ h]
    · simp only [Bool.and_eq_true, beq_iff_eq] at h; obtain ⟨⟨⟨⟨rfl, rfl⟩, rfl⟩, rfl⟩, rfl⟩ := h; rfl
    · rw [beq_iff_eq.1 h]
    · simp only [Bool.and_eq_true, beq_iff_eq] at h; obtain ⟨⟨rfl, h1⟩, h2⟩ := h; rw [allB_ok ih _ _ h1, allB_ok ih _ _ h2]
    · simp only [Bool.and_eq_true, beq_iff_eq] at h; obtain ⟨rfl, h1⟩ := h; rw [ih _ _ h1]
    · rw [allB_ok ih _ _ h]
    · rw [allB_ok ih _ _ h]
    · cases h

/-- The operands at whose objects it looks are the model's. -/
theorem builtin_reads {ann : Nat} {b : Builtin} {as : Array Operand} {ts : Array TypeId} {ao : AOp} (h : prepBuiltin P ann b as ts = some ao) : ∀ y ∈ ao.reads, y ∈ as.toList := by
  unfold prepBuiltin at h
  intro y hy
  repeat' split at h
  all_goals first
    | (cases h; done)
    | (cases h; simp_all [AOp.reads]; done)
    | (simp only [opt] at h; split at h <;> cases h; simp_all [AOp.reads]; done)
    | (simp only [Option.map_eq_some_iff] at h; obtain ⟨_, _, rfl⟩ := h; simp_all [AOp.reads]; done)

theorem reads_mem {ann : Nat} {op : Op} {ao : AOp} (h : prepIn P ann op = some ao) : ∀ y ∈ ao.reads, y ∈ op.operands.toList := by
  intro y hy
  cases op
  case call c =>
    obtain ⟨callee, as, ts⟩ := c
    cases callee with
    | builtin b => 
      simp only [prepIn] at h
      have := builtin_reads h y hy
      simp [Op.operands, Call.operands] at this ⊢
      simp [this]
    | invoke => simp [prepIn] at h
    | value g =>
      cases g with
      | func k =>
        simp only [prepIn] at h
        repeat' split at h
        all_goals cases h
        all_goals simp_all [AOp.reads]
      | _ => simp only [prepIn] at h; cases h; simp_all [AOp.reads]
  case makeFunc fn a b => cases fn <;> simp [prepIn] at h; subst h; simp_all [AOp.reads]
  case next it b => cases b <;> simp [prepIn] at h; subst h; simp_all [AOp.reads]
  case makeMap t r =>
    cases r <;> simp only [prepIn] at h
    · split at h <;> cases h; simp_all [AOp.reads]
    · cases h
  case defer c =>
    obtain ⟨callee, as, ts⟩ := c
    cases callee <;> simp [prepIn] at h; subst h; simp_all [AOp.reads]
  all_goals simp only [prepIn] at h
  all_goals repeat' split at h
  all_goals first
    | (cases h; done)
    | (cases h; simp_all [AOp.reads, Op.operands]; done)
    | (simp only [opt] at h; split at h <;> cases h; simp_all [AOp.reads, Op.operands]; done)
    | (simp only [Option.map_eq_some_iff] at h; obtain ⟨_, _, rfl⟩ := h; simp_all [AOp.reads, Op.operands]; done)

section
variable {ops : Array Oper} {ms : List Nat} {L : List AOper} {call : Caller} {base : Nat} {st : Nat → ASt} {hs : Nat → List AH} {val : Nat → AV} {mk : Nat → Option AObj} {T : Nat → Bool} {cp : Nat} {a : Act}

/-- How many operations of the chain lie between. -/
def chains (L : List AOper) (q p : Nat) : Nat := (((L.take p).drop q).filter (·.op.chain)).length

theorem chains_succ {q p : Nat} {o : AOper} (hp : L[p]? = some o) (hq : q ≤ p) : chains L q (p + 1) = chains L q p + (if o.op.chain then 1 else 0) := by
  unfold chains
  have hlt : p < L.length := (List.getElem?_eq_some_iff.1 hp).1
  have : L.take (p + 1) = L.take p ++ [o] := by rw [List.take_add_one, hp]; rfl
  rw [this, List.drop_append_of_le_length (by simp; omega), List.filter_append, List.length_append]
  congr 1
  cases h : o.op.chain <;> simp [h]

/-- The heap before an operation of the chain is remembered. -/
theorem hist_mem (R : Dr P ops ms L call base st hs val mk) {q : Nat} {oq : AOper} (hq : L[q]? = some oq) (hc : oq.op.chain = true) : ∀ d, q + 1 + d ≤ L.length → (st q).H ∈ (hs (q + 1 + d)).take (chains L q (q + 1 + d)) := by
  intro d
  induction d with
  | zero =>
    intro _
    have hst := R.tr q oq hq
    rw [Nat.add_zero, chains_succ hq (Nat.le_refl _)]
    simp only [hc, if_true]
    generalize hs (q + 1) = h1 at hst
    generalize st (q + 1) = s1 at hst
    generalize val q = v at hst
    generalize mk q = m at hst
    cases hst with
    | chain => simp
    | make h => rw [hc] at h; cases h
    | read h => rw [hc] at h; cases h
    | skip h => rw [hc] at h; cases h
  | succ d ih =>
    intro hd
    have ih := ih (by omega)
    obtain ⟨o, ho⟩ : ∃ o, L[q + 1 + d]? = some o := ⟨L[q + 1 + d], List.getElem?_eq_getElem (by omega)⟩
    have hst := R.tr _ o ho
    rw [show q + 1 + (d + 1) = q + 1 + d + 1 by omega, chains_succ ho (by omega)]
    generalize hs (q + 1 + d + 1) = h1 at hst
    generalize st (q + 1 + d + 1) = s1 at hst
    generalize val (q + 1 + d) = v at hst
    generalize mk (q + 1 + d) = m at hst
    cases hst with
    | chain h => simp only [h, if_true, List.take_succ_cons]; exact List.mem_cons_of_mem _ ih
    | make h => simp only [h, Bool.false_eq_true, if_false, Nat.add_zero]; exact ih
    | read h => simp only [h, Bool.false_eq_true, if_false, Nat.add_zero]; exact ih
    | skip h => simp only [h, Bool.false_eq_true, if_false, Nat.add_zero]; exact ih

/-- Over so many it may move. -/
theorem chains_le (R : Dr P ops ms L call base st hs val mk) {q p : Nat} {o : AOper} (hp : L[p]? = some o) (hc : o.op.chain = false)
    (hno : ∀ (k : Nat) (ok : AOper), q ≤ k → k < p → L[k]? = some ok → ok.op.chain = true → (ms.getD o.idx 0).testBit ok.idx = false) : chains L q p ≤ o.back := by
  refine Nat.le_trans ?_ (R.D.back p o hp hc)
  unfold chains
  have e : ((L.take p).drop q).filter (·.op.chain) = ((L.take p).drop q).filter (fun d => d.op.chain && !(ms.getD o.idx 0).testBit d.idx) := by
    apply List.filter_congr
    intro x hx
    rw [List.mem_drop_iff_getElem] at hx
    obtain ⟨i, hi, rfl⟩ := hx
    simp only [List.length_take] at hi
    cases hch : ((L.take p)[q + i]).op.chain with
    | false => rfl
    | true =>
      simp only [List.getElem_take] at hch ⊢
      rw [hno (q + i) _ (by omega) (by omega) (List.getElem?_eq_getElem (by omega)) hch]
      rfl
  rw [e]
  exact ((List.drop_sublist _ _).filter _).length_le

theorem kept_plus {p x : Nat} (h : KeptR n0 L base (plus T p) x) : KeptR n0 L base T x := by
  rcases h with h | ⟨h1, q, o, h2, h3, h4⟩
  · exact .inl h
  · refine .inr ⟨h1, q, o, h2, ?_, h4⟩
    simp [plus] at h3
    exact h3.1

theorem HS_cases (hinj : ∀ (p q : Nat) (o o' : AOper), L[p]? = some o → L[q]? = some o' → o.idx = o'.idx → p = q) (x : Nat) :
    (∃ p o y, L[p]? = some o ∧ mk p = some y ∧ T p = true ∧ cp ≤ p ∧ x = base + o.idx ∧ (HS L base mk T cp H).get x = some y) ∨
      ((∀ p o y, L[p]? = some o → mk p = some y → T p = true → cp ≤ p → x ≠ base + o.idx) ∧ (HS L base mk T cp H).get x = H.get x) := by
  by_cases h : ∃ p o y, L[p]? = some o ∧ mk p = some y ∧ T p = true ∧ cp ≤ p ∧ x = base + o.idx
  · obtain ⟨p, o, y, h1, h2, h3, h4, rfl⟩ := h
    exact .inl ⟨p, o, y, h1, h2, h3, h4, rfl, HS_slot hinj h1 h2 h3 h4⟩
  · have h' : ∀ p o y, L[p]? = some o → mk p = some y → T p = true → cp ≤ p → x ≠ base + o.idx := fun p o y h1 h2 h3 h4 h5 => h ⟨p, o, y, h1, h2, h3, h4, h5⟩
    exact .inr ⟨h', HS_other h'⟩

theorem HS_plus_none {p : Nat} (hm : mk p = none) : HS L base mk (plus T p) cp H = HS L base mk T cp H := by
  unfold HS
  rw [hsF_congr (T' := T)]
  intro q o y _ hy _
  have : q ≠ p := by rintro rfl; rw [hm] at hy; cases hy
  simp [plus, this]

theorem HS_plus_some (hinj : ∀ (p q : Nat) (o o' : AOper), L[p]? = some o → L[q]? = some o' → o.idx = o'.idx → p = q) {p : Nat} {o : AOper} {y : AObj} (hp : L[p]? = some o) (hm : mk p = some y) (hc : cp ≤ p) (x : Nat) :
    (HS L base mk (plus T p) cp H).get x = ((HS L base mk T cp H).set (base + o.idx) y).get x := by
  rw [AH.get_set]
  split
  · rename_i hx
    rw [hx, HS_slot hinj hp hm (by simp [plus]) hc]
  · rename_i hx
    rcases HS_cases (T := T) (cp := cp) (H := H) (mk := mk) (base := base) hinj x with ⟨q, oq, yq, h1, h2, h3, h4, rfl, h5⟩ | ⟨h1, h2⟩
    · rw [h5, HS_slot hinj h1 h2 (by simp [plus, h3]) h4]
    · rw [h2, HS_other]
      intro q oq yq e1 e2 e3 e4
      by_cases hqp : q = p
      · subst hqp; rw [hp] at e1; cases e1; exact hx
      · exact h1 q oq yq e1 e2 (by simpa [plus, hqp] using e3) e4

/-- The first operation of the chain from a position on. -/
theorem first_chain (L : List AOper) (cp : Nat) : ∀ d, cp + d ≤ L.length → ∃ c, cp ≤ c ∧ c ≤ cp + d ∧ (∀ (q : Nat) (o : AOper), cp ≤ q → q < c → L[q]? = some o → o.op.chain = false) ∧
    (c = cp + d ∨ ∃ oc, L[c]? = some oc ∧ oc.op.chain = true) := by
  intro d
  induction d with
  | zero => intro _; exact ⟨cp, Nat.le_refl _, Nat.le_refl _, fun q o h1 h2 => absurd h1 (by omega), .inl rfl⟩
  | succ d ih =>
    intro hd
    obtain ⟨c, h1, h2, h3, h4⟩ := ih (by omega)
    rcases h4 with h4 | ⟨oc, h4, h5⟩
    · subst h4
      obtain ⟨o, ho⟩ : ∃ o, L[cp + d]? = some o := ⟨L[cp + d], List.getElem?_eq_getElem (by omega)⟩
      cases hc : o.op.chain with
      | true => exact ⟨cp + d, h1, by omega, h3, .inr ⟨o, ho, hc⟩⟩
      | false =>
        refine ⟨cp + (d + 1), by omega, Nat.le_refl _, fun q o' e1 e2 e3 => ?_, .inl rfl⟩
        by_cases hq : q = cp + d
        · subst hq; rw [ho] at e3; cases e3; exact hc
        · exact h3 q o' e1 (by omega) e3
    · exact ⟨c, h1, by omega, h3, .inr ⟨oc, h4, h5⟩⟩

/-- What a reading operation yields here is what it yields in the canonical run. -/
theorem read_here (hcall : CallOk P call) (R : Dr P ops ms L call base st hs val mk) (hI : InvD n0 w0 G0 ms L base st val mk T cp G a w) {p : Nat} {o : AOper} (hp : L[p]? = some o) (hT : T p = false)
    (hready : ∀ (q : Nat) (o' : AOper), L[q]? = some o' → (ms.getD o.idx 0).testBit o'.idx = true → T q = true) (hc : o.op.chain = false) (hm : o.op.makes = false) {x : Oper} (hx : ops[o.idx]? = some x) {ann : Nat} (hpr : prepOp P ann x = some o.op)
    (ha : aop (st p).σ (st p).H o.op = some (v, (st p).H)) (hb : backs o.op (st p).σ v ((hs p).take o.back) = true) :
    aop (st p).σ (HS L base mk T cp (st cp).H) o.op = some (v, HS L base mk T cp (st cp).H) := by
  have hlt : p < L.length := (List.getElem?_eq_some_iff.1 hp).1
  have hcp := silent_ge R hI hT
  unfold backs at hb
  simp only [hm, Bool.false_or, Bool.or_eq_true, List.all_eq_true, Option.isNone_iff_eq_none] at hb
  rcases hb with hb | hb
  · exact (aop_local hc hm (fun y hy o' z hn => by rw [hb y hy] at hn; cases hn) ha).2
  · obtain ⟨c, h1, h2, h3, h4⟩ := first_chain L cp (p - cp) (by omega)
    rw [show cp + (p - cp) = p by omega] at h2 h4
    have hHc : ∃ H', aop (st p).σ (st c).H o.op = some (v, H') := by
      rcases h4 with rfl | ⟨oc, h4, h5⟩
      · exact ⟨_, ha⟩
      · have hne : c ≠ p := by rintro rfl; rw [hp] at h4; cases h4; rw [hc] at h5; cases h5
        have hmem := hist_mem R h4 h5 (p - (c + 1)) (by omega)
        rw [show c + 1 + (p - (c + 1)) = p by omega] at hmem
        have hle : chains L c p ≤ o.back := chains_le R hp hc (fun k ok e1 e2 e3 e4 => by
          cases hbit : (ms.getD o.idx 0).testBit ok.idx with
          | false => rfl
          | true =>
            have := (hI.chain k ok e3 e4).1 (hready k ok e3 hbit)
            omega)
        have hmem2 : (st c).H ∈ (hs p).take o.back := by
          rw [List.mem_take_iff_getElem] at hmem ⊢
          obtain ⟨i, hi, he⟩ := hmem
          exact ⟨i, by omega, he⟩
        have := hb _ hmem2
        split at this
        · rename_i u H' hu
          exact ⟨H', by rw [hu, avBeq_ok _ _ _ this]⟩
        · cases this
    obtain ⟨H', hHc⟩ := hHc
    refine (aop_local hc hm (fun y hy o' z hn hz hd => ?_) hHc).2
    have hrep := rep_operand R hI hp hT hready hx hpr y (reads_mem (prepOp_in hpr) y hy)
    have hund := named_und hrep hn
    have hbt := canon_between R.D.inj R.tr (cp := cp) (c - cp) (by omega) (fun q oq e1 e2 e3 => h3 q oq e1 (by omega) e3) o'
    rw [show cp + (c - cp) = c by omega] at hbt
    rw [hbt] at hz
    rcases HS_cases (T := fun q => decide (q < c)) (cp := cp) (H := (st cp).H) (mk := mk) (base := base) R.D.inj o' with ⟨q, oq, yq, e1, e2, e3, e4, rfl, e5⟩ | ⟨e1, e2⟩
    · rw [e5] at hz
      cases hz
      cases hTq : T q with
      | true => exact HS_slot R.D.inj e1 e2 hTq e4
      | false => exact absurd (hI.rel.res _ (.inr ⟨(mk_makes R e1 (by rw [e2]; simp)).1, q, oq, e1, hTq, rfl⟩)).1 hund
    · rw [e2] at hz
      rcases HS_cases (T := T) (cp := cp) (H := (st cp).H) (mk := mk) (base := base) R.D.inj o' with ⟨q, oq, yq, g1, g2, g3, g4, rfl, g5⟩ | ⟨g1, g2⟩
      · have := (canon hcall R cp hI.le).2.2 q oq g4 g1 (R.slot (mk_makes R g1 (by rw [g2]; simp)).1 q oq g1).2
        rw [this] at hz
        cases hz
        exact absurd rfl hd
      · rw [g2, hz]

theorem mem_plus {p q : Nat} : plus T p q = true ↔ T q = true ∨ q = p := by simp [plus]

/-- Behind a silent operation. -/
theorem silent_fin (R : Dr P ops ms L call base st hs val mk) (hI : InvD n0 w0 G0 ms L base st val mk T cp G a w) {p : Nat} {o : AOper} (hp : L[p]? = some o) (hT : T p = false)
    (hready : ∀ (q : Nat) (o' : AOper), L[q]? = some o' → (ms.getD o.idx 0).testBit o'.idx = true → T q = true) (hc : o.op.chain = false) {x : Oper} (hl : Looked P ops o.idx o x)
    {u : Value} {w' : World} {G' : Gh} (hG : G.le G') (hW : WRel (n0.withR (KeptR n0 L base (plus T p))) w0 G' (HS L base mk (plus T p) cp (st cp).H) w') (hv : Rep G' (val p) u) :
    InvD n0 w0 G0 ms L base st val mk (plus T p) cp G' (a.put x.dst u) w' := by
  have hsz : (a.put x.dst u).tmps.size = a.tmps.size := by cases x.dst <;> simp [Act.put]
  refine ⟨hI.le, fun q oq hq hcq => ?_, fun q hq => mem_plus.2 (.inl (hI.all q hq)), fun q oq hq hTq q' oq' hq' hb => ?_, hI.g.trans hG, hW, ?_, fun t ht => ?_, ?_, hI.out⟩
  · rw [mem_plus, ← hI.chain q oq hq hcq]
    refine ⟨fun h => h.resolve_right ?_, .inl⟩
    rintro rfl
    rw [hp] at hq; cases hq
    rw [hc] at hcq; cases hcq
  · rcases mem_plus.1 hTq with h | rfl
    · exact mem_plus.2 (.inl (hI.down q oq hq h q' oq' hq' hb))
    · rw [hp] at hq; cases hq
      exact mem_plus.2 (.inl (hready q' oq' hq' hb))
  · rw [hsz]; exact hI.size
  · rw [hsz] at ht
    by_cases hd : o.dst = some t
    · rw [look_last hp (mem_plus.2 (.inr rfl)) hd]
      · have : (a.put x.dst u).tmps.getD t undef = u := by
          rw [← hl.dst, hd]
          simp [Act.put, Array.getD_eq_getD_getElem?, ht]
        rw [this]
        exact hv
      · intro q oq hpq hq hTq hdq
        have hTq : T q = true := (mem_plus.1 hTq).resolve_right (by omega)
        obtain ⟨x1, y1, e1, e2, e3⟩ := R.D.temps p q o oq hpq hp hq
        obtain ⟨y, hy⟩ := R.looked q oq hq
        rw [hl.at_] at e1; cases e1
        rw [hy.at_] at e2; cases e2
        rcases e3 with e3 | ⟨e3, _⟩
        · have := hI.down q oq hq hTq p o hp e3
          rw [hT] at this; cases this
        · refine e3 t ?_ (hy.dst ▸ hdq)
          unfold tmpsOf
          rw [← hl.dst, hd]
          simp
    · have e1 : look L val (st 0).σ (plus T p) t = look L val (st 0).σ T t := by
        refine look_congr fun q oq hq hdq => ?_
        have : q ≠ p := by rintro rfl; rw [hp] at hq; cases hq; exact hd hdq
        simp [plus, this]
      have e2 : (a.put x.dst u).tmps.getD t undef = a.tmps.getD t undef := by
        rw [← hl.dst]
        cases hdo : o.dst with
        | none => rfl
        | some d =>
          have : d ≠ t := by rintro rfl; exact hd hdo
          simp [Act.put, Array.getD_eq_getD_getElem?, this]
      rw [e1, e2]
      exact (hI.tmps t ht).mono hG
  · rw [put_defers]; exact hI.defs.mono hG

/-- A silent operation, in the state of a listed set. -/
theorem silent_step (hext : ExtOk P) (hcall : CallOk P call) (R : Dr P ops ms L call base st hs val mk) (hI : InvD n0 w0 G0 ms L base st val mk T cp G a w) {p : Nat} {o : AOper} (hp : L[p]? = some o) (hT : T p = false)
    (hready : ∀ (q : Nat) (o' : AOper), L[q]? = some o' → (ms.getD o.idx 0).testBit o'.idx = true → T q = true) (hc : o.op.chain = false) {r : Option Nat} {n : Nat} {Q : Exit → Act → World → Prop} :
    wpOpIn (Wd r) n P ops Q o.idx (fun a' w' => ∃ G', InvD n0 w0 G0 ms L base st val mk (plus T p) cp G' a' w') a w := by
  obtain ⟨x, hl⟩ := R.looked p o hp
  obtain ⟨ann, hpr⟩ := hl.op
  have hE := rep_operand R hI hp hT hready hl.at_ hpr
  have hcp := silent_ge R hI hT
  have hwant : Region.wanted x (yielded ops a.tmps) = wanted (st p).σ o.guard := wanted_eq hl.guard (fun t b hg => rep_tmp R hI hp hT hready hl.at_ (by
    unfold tmpsOf
    rw [hg]
    simp))
  have hres : ∀ (q : Nat), KeptR n0 L base (plus T p) q → Und G q ∧ (HS L base mk T cp (st cp).H).get q = some .dead := fun q hq => hI.rel.res q (kept_plus hq)
  have fin := fun {u : Value} {w' : World} {G' : Gh} => silent_fin R hI hp hT hready hc hl (u := u) (w' := w') (G' := G')
  unfold wpOpIn
  rw [hl.at_]
  simp only [hwant]
  have hst := R.tr p o hp
  generalize hm : mk p = m at hst
  generalize hs1 : st (p + 1) = s1 at hst
  generalize hs2 : hs (p + 1) = h1' at hst
  generalize hs3 : val p = v at hst fin
  cases hst with
  | chain h => rw [hc] at h; cases h
  | make hc2 hmk hw hlt2 ha =>
    clear hc2 hlt2
    rename_i y
    rw [if_pos hw]
    obtain ⟨y', e1, e2⟩ := aop_makes hmk ha
    have hyy : y' = y := by
      have := congrArg (fun H : AH => H.get (base + o.idx)) e1
      simp [AH.get_push] at this
      exact this.symm
    subst hyy
    have hk : KeptR n0 L base T (base + o.idx) := .inr ⟨(mk_makes R hp (by rw [hm]; simp)).1, p, o, hp, hT, rfl⟩
    have hnk : ¬ KeptR n0 L base (plus T p) (base + o.idx) := by
      rintro (h | ⟨_, q, oq, h2, h3, h4⟩)
      · exact hI.out (mk_makes R hp (by rw [hm]; simp)).1 p o hp h
      · have := R.D.inj p q o oq hp h2 (by omega)
        subst this
        simp [plus] at h3
    have hW1 : WRel (n0.withR (KeptR n0 L base (plus T p))) w0 G { HS L base mk T cp (st cp).H with n := base + o.idx } w := ((hI.rel.withR hres).ext (H' := { HS L base mk T cp (st cp).H with n := base + o.idx }) fun _ => rfl)
    refine op_plain hext hpr hE hW1 ⟨(hI.rel.res _ hk).1, hnk⟩ (fun h => by rw [hc] at h; cases h) (e2 _ rfl) ?_
    intro u w' G' g1 g2 g3
    refine ⟨G', fin g1 (g2.ext fun z => ?_) g3⟩
    rw [HS_plus_some R.D.inj hp hm hcp z]
    rfl
  | read _ hmk hw ha hb =>
    rw [if_pos hw]
    have hr := read_here hcall R hI hp hT hready hc hmk hl.at_ hpr ha hb
    refine op_plain hext hpr hE hI.rel (hI.rel.free (hs_next hcall R hI.le)) (fun h => by rw [hc] at h; cases h) hr ?_
    intro u w' G' g1 g2 g3
    refine ⟨G', fin g1 ?_ g3⟩
    rw [HS_plus_none hm]
    exact g2.withR fun q hq => g2.res q (kept_plus hq)
  | skip _ hw =>
    have hw' : ¬ wanted (st p).σ o.guard = true := by rw [hw]; simp
    rw [if_neg hw']
    refine ⟨fun _ _ => trivial, G, fin (Gh.le.refl G) ?_ rep_und⟩
    rw [HS_plus_none hm]
    exact hI.rel.withR hres

end

end Go.Abs
