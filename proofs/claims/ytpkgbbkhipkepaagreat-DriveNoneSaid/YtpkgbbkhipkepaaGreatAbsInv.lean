/-
  A REGION THAT DRAWS ITS ORDER: the state of a listed set; its steps.
-/
import Derived.Test.YtpkgbbkhipkepaaGreatAbsDraw
namespace Go.Abs
open Go.RowKit

variable {P : Program} {n0 : Fr P} {w0 : World} {G G0 : Gh} {H H' : AH} {w : World} {σ : List AV} {v : AV}

/-- A canonical run of a region. -/
structure Dr (P : Program) (ops : Array Oper) (ms : List Nat) (L : List AOper) (call : Caller) (base : Nat) (st : Nat → ASt) (hs : Nat → List AH) (val : Nat → AV) (mk : Nat → Option AObj) : Prop where
  D : DrawS ops ms L
  looked : ∀ (p : Nat) (ao : AOper), L[p]? = some ao → ∃ o, Looked P ops ao.idx ao o
  tr : ∀ (p : Nat) (o : AOper), L[p]? = some o → StepD call base o (st p) (hs p) (st (p + 1)) (hs (p + 1)) (val p) (mk p)
  hs0 : hs 0 = []
  wf : WF (st 0).H
  slot : (L.any (·.op.makes)) = true → ∀ (p : Nat) (o : AOper), L[p]? = some o → base + o.idx < (st 0).H.n ∧ (st 0).H.get (base + o.idx) = some .dead

/-- The numbers that are kept for operations that are not listed. -/
def KeptR (n0 : Fr P) (L : List AOper) (base : Nat) (T : Nat → Bool) (x : Nat) : Prop :=
  n0.R x ∨ ((L.any (·.op.makes)) = true ∧ ∃ (p : Nat) (o : AOper), L[p]? = some o ∧ T p = false ∧ x = base + o.idx)

/-- The state of a listed set of positions. -/
structure InvD (n0 : Fr P) (w0 : World) (G0 : Gh) (ms : List Nat) (L : List AOper) (base : Nat) (st : Nat → ASt) (val : Nat → AV) (mk : Nat → Option AObj) (T : Nat → Bool) (cp : Nat) (G : Gh) (a : Act) (w : World) : Prop where
  le : cp ≤ L.length
  chain : ∀ (p : Nat) (o : AOper), L[p]? = some o → o.op.chain = true → (T p = true ↔ p < cp)
  all : ∀ p, p < cp → T p = true
  down : ∀ (p : Nat) (o : AOper), L[p]? = some o → T p = true → ∀ (q : Nat) (o' : AOper), L[q]? = some o' → (ms.getD o.idx 0).testBit o'.idx = true → T q = true
  g : G0.le G
  rel : WRel (n0.withR (KeptR n0 L base T)) w0 G (HS L base mk T cp (st cp).H) w
  size : a.tmps.size = (st 0).σ.length
  tmps : ∀ t, t < a.tmps.size → Rep G (look L val (st 0).σ T t) (a.tmps.getD t undef)
  defs : DefsOk G (st cp).ds a.defers
  out : (L.any (·.op.makes)) = true → ∀ (p : Nat) (o : AOper), L[p]? = some o → ¬ n0.R (base + o.idx)

/-- What an operation that is about to run sees in its temporaries is what it sees in the canonical run. -/
theorem agree {ops : Array Oper} {ms : List Nat} {L : List AOper} {val : Nat → AV} {σ0 : List AV} {T : Nat → Bool} (hD : DrawS ops ms L) (hlook : ∀ (p : Nat) (ao : AOper), L[p]? = some ao → ∃ o, Looked P ops ao.idx ao o)
    (down : ∀ (p : Nat) (o : AOper), L[p]? = some o → T p = true → ∀ (q : Nat) (o' : AOper), L[q]? = some o' → (ms.getD o.idx 0).testBit o'.idx = true → T q = true)
    {p : Nat} {o : AOper} (hp : L[p]? = some o) (hT : T p = false) (hready : ∀ (q : Nat) (o' : AOper), L[q]? = some o' → (ms.getD o.idx 0).testBit o'.idx = true → T q = true) {x : Oper} (hx : ops[o.idx]? = some x) {t : Tmp} (ht : t ∈ tmpsOf x o.guard) :
    look L val σ0 T t = look L val σ0 (fun q => q < p) t := by
  refine look_congr fun q oq hq hd => ?_
  obtain ⟨y, hy⟩ := hlook q oq hq
  rcases Nat.lt_trichotomy q p with h | h | h
  · obtain ⟨y', x', e1, e2, e3⟩ := hD.temps q p oq o h hq hp
    rw [hx] at e2; cases e2
    rw [hy.at_] at e1; cases e1
    rcases e3 with e3 | ⟨_, e3⟩
    · rw [hready q oq hq e3]; simp [h]
    · exact absurd (hy.dst ▸ hd) (e3 t ht)
  · subst h
    rw [hT]; simp
  · obtain ⟨x', y', e1, e2, e3⟩ := hD.temps p q o oq h hp hq
    rw [hx] at e1; cases e1
    rw [hy.at_] at e2; cases e2
    have hn : ¬ q < p := by omega
    rcases e3 with e3 | ⟨e3, _⟩
    · have : T q = false := by
        cases hTq : T q with
        | false => rfl
        | true =>
          have := down q oq hq hTq p o hp e3
          rw [hT] at this; cases this
      rw [this]; simp [hn]
    · exact absurd (hy.dst ▸ hd) (e3 t ht)

section
variable {ops : Array Oper} {ms : List Nat} {L : List AOper} {call : Caller} {base : Nat} {st : Nat → ASt} {hs : Nat → List AH} {val : Nat → AV} {mk : Nat → Option AObj} {T : Nat → Bool} {cp : Nat} {a : Act}

/-- The temporaries that an operation looks at. -/
theorem rep_tmp (R : Dr P ops ms L call base st hs val mk) (hI : InvD n0 w0 G0 ms L base st val mk T cp G a w) {p : Nat} {o : AOper} (hp : L[p]? = some o) (hT : T p = false)
    (hready : ∀ (q : Nat) (o' : AOper), L[q]? = some o' → (ms.getD o.idx 0).testBit o'.idx = true → T q = true) {x : Oper} (hx : ops[o.idx]? = some x) {t : Tmp} (ht : t ∈ tmpsOf x o.guard) : Rep G ((st p).σ.getD t .und) (a.tmps.getD t undef) := by
  have hlt : p < L.length := (List.getElem?_eq_some_iff.1 hp).1
  have hsz := hI.size
  by_cases hts : t < a.tmps.size
  · rw [(look_prefix R.tr t (by rw [← hI.size]; exact hts) p (by omega)).2, ← agree R.D R.looked hI.down hp hT hready hx ht]
    exact hI.tmps t hts
  · have h9 : a.tmps.size ≤ t := Nat.le_of_not_lt hts
    have h0 : (st p).σ.length = (st 0).σ.length := by
      have : ∀ p, p ≤ L.length → (st p).σ.length = (st 0).σ.length := by
        intro p
        induction p with
        | zero => intro _; rfl
        | succ p ih =>
          intro hp
          obtain ⟨o, ho⟩ : ∃ o, L[p]? = some o := ⟨L[p], List.getElem?_eq_getElem (by omega)⟩
          rw [(R.tr p o ho).put]
          cases o.dst <;> simp [put, ih (by omega)]
      exact this p (by omega)
    have e1 : (st p).σ.getD t .und = .und := by
      rw [List.getD_eq_getElem?_getD, List.getElem?_eq_none (by rw [h0, ← hsz]; exact h9)]; rfl
    have e2 : a.tmps.getD t undef = undef := by
      rw [Array.getD_eq_getD_getElem?, Array.getElem?_eq_none h9]; rfl
    rw [e1, e2]
    exact rep_und

theorem rep_operand (R : Dr P ops ms L call base st hs val mk) (hI : InvD n0 w0 G0 ms L base st val mk T cp G a w) {p : Nat} {o : AOper} (hp : L[p]? = some o) (hT : T p = false)
    (hready : ∀ (q : Nat) (o' : AOper), L[q]? = some o' → (ms.getD o.idx 0).testBit o'.idx = true → T q = true) {x : Oper} (hx : ops[o.idx]? = some x) {ann : Nat} {ao : AOp} (hpr : prepOp P ann x = some ao) :
    ∀ y ∈ x.op.operands.toList, Rep G (evalO (st p).σ y) (a.eval y) := by
  intro y hy
  have hok := prepOp_ok hpr y hy
  cases y with
  | tmp t =>
    have := rep_tmp R hI hp hT hready hx (t := t) (by
      unfold tmpsOf
      rw [opL_eq]
      simp only [List.mem_append, List.mem_filterMap]
      exact .inl (.inr ⟨.tmp t, hy, rfl⟩))
    simpa [evalO, Act.eval, Array.getD_eq_getD_getElem?] using this
  | const c => exact .lit hok
  | global g => cases hok
  | func f => exact .fn (as := []) (bs := []) (us := []) (vs := []) rfl rfl (fun _ h => absurd h (Nat.not_lt_zero _)) (fun _ h => absurd h (Nat.not_lt_zero _))

/-- A listed set, and one position more. -/
def plus (T : Nat → Bool) (p : Nat) : Nat → Bool := fun q => T q || q == p

theorem HS_n {base : Nat} {T : Nat → Bool} {cp : Nat} : (HS L base mk T cp H).n = H.n := by
  unfold HS
  generalize List.range L.length = l
  induction l generalizing H with
  | nil => rfl
  | cons p l ih =>
    rw [List.foldl_cons, ih]
    unfold hsF
    split
    · split <;> simp
    · rfl

/-- Where the canonical run has come to when a silent operation that is not listed has its turn: no chain's operation lies between, up to the first that is not listed. -/
theorem silent_ge (_R : Dr P ops ms L call base st hs val mk) (hI : InvD n0 w0 G0 ms L base st val mk T cp G a w) {p : Nat} (hT : T p = false) : cp ≤ p := by
  rcases Nat.lt_or_ge p cp with h | h
  · rw [hI.all p h] at hT; cases hT
  · exact h

theorem mk_makes (R : Dr P ops ms L call base st hs val mk) {p : Nat} {o : AOper} (hp : L[p]? = some o) (hm : mk p ≠ none) : (L.any (·.op.makes)) = true ∧ o.op.makes = true := by
  have hst := R.tr p o hp
  generalize mk p = m at hst hm
  generalize st (p + 1) = s1 at hst
  generalize hs (p + 1) = h1 at hst
  generalize val p = v at hst
  cases hst with
  | make hc hmk hwn hlt ha => exact ⟨List.any_eq_true.2 ⟨o, List.mem_of_getElem? hp, hmk⟩, hmk⟩
  | _ => exact absurd rfl hm

theorem canon (hcall : CallOk P call) (R : Dr P ops ms L call base st hs val mk) : ∀ p, p ≤ L.length → WF (st p).H ∧ (st 0).H.n ≤ (st p).H.n ∧ ∀ (q : Nat) (o : AOper), p ≤ q → L[q]? = some o → (st 0).H.get (base + o.idx) = some .dead → (st p).H.get (base + o.idx) = some .dead :=
  canon_heap hcall R.D.inj R.tr R.wf (fun p o hp hm => (R.slot (mk_makes R hp hm).1 p o hp).1)

/-- In the state of a listed set the next number is free. -/
theorem hs_next (hcall : CallOk P call) (R : Dr P ops ms L call base st hs val mk) (hcp : cp ≤ L.length) : (HS L base mk T cp (st cp).H).get (HS L base mk T cp (st cp).H).n = none := by
  obtain ⟨h1, h2, _⟩ := canon hcall R cp hcp
  rw [HS_n, HS_other]
  · exact h1 _ (Nat.le_refl _)
  · intro p o y hp hy _ _ he
    have := (R.slot (mk_makes R hp (by rw [hy]; simp)).1 p o hp).1
    omega

end

end Go.Abs
