/-
  A REGION THAT DRAWS ITS ORDER: the step of an operation of the chain.
-/
import Derived.Test.YtpkgbbkhipkepaaGreatAbsSil
namespace Go.Abs
open Go.RowKit

variable {P : Program} {n0 n1 : Fr P} {w0 : World} {G G0 G' : Gh} {H H' H1 H1' : AH} {w w' : World} {σ : List AV} {v : AV}

theorem ObjOk.lessK {o : Nat} {x : AObj} (h : ObjOk G w n1 o x) (hK : ∀ b, n0.K b → n1.K b) : ObjOk G w n0 o x := by
  cases x with
  | cells ty g fz cs => obtain ⟨b, s, e, C, fr, h1, h2, h3⟩ := h; exact ⟨b, s, e, C, fr, h1, fun hk => h2 (hK _ hk), h3⟩
  | tok ty e0 => obtain ⟨b, e, c, C, fr, h1, h2, h3⟩ := h; exact ⟨b, e, c, C, fr, h1, fun hk => h2 (hK _ hk), h3⟩
  | map es clock => obtain ⟨r, E, h1, h2, h3⟩ := h; exact ⟨r, E, h1, fun hk => h2 (hK _ hk), h3⟩
  | iter s pos => obtain ⟨r, h1, h2, h3⟩ := h; exact ⟨r, h1, fun hk => h2 (hK _ hk), h3⟩
  | loop st pd g σ ps x y => obtain ⟨r, l, h1, h2, h3⟩ := h; exact ⟨r, l, h1, fun hk => h2 (hK _ hk), h3⟩
  | dfr => obtain ⟨r, h1, h2, h3⟩ := h; exact ⟨r, h1, fun hk => h2 (hK _ hk), h3⟩
  | dead => trivial

theorem ObjOk.moreK {o : Nat} {x : AObj} (h : ObjOk G w n0 o x) (hK : ∀ b, blkOf G o x = some b → ¬ n1.K b) : ObjOk G w n1 o x := by
  cases x with
  | cells ty g fz cs => obtain ⟨b, s, e, C, fr, h1, h2, h3⟩ := h; exact ⟨b, s, e, C, fr, h1, hK _ (by simp [blkOf, h1]), h3⟩
  | tok ty e0 => obtain ⟨b, e, c, C, fr, h1, h2, h3⟩ := h; exact ⟨b, e, c, C, fr, h1, hK _ (by simp [blkOf, h1]), h3⟩
  | map es clock => obtain ⟨r, E, h1, h2, h3⟩ := h; exact ⟨r, E, h1, hK _ (by simp [blkOf, h1]), h3⟩
  | iter s pos => obtain ⟨r, h1, h2, h3⟩ := h; exact ⟨r, h1, hK _ (by simp [blkOf, h1]), h3⟩
  | loop st pd g σ ps x y => obtain ⟨r, l, h1, h2, h3⟩ := h; exact ⟨r, l, h1, hK _ (by simp [blkOf, h1]), h3⟩
  | dfr => obtain ⟨r, h1, h2, h3⟩ := h; exact ⟨r, h1, hK _ (by simp [blkOf, h1]), h3⟩
  | dead => trivial

/-- Some objects set aside: their blocks are kept out. -/
structure Aside {P : Program} (n0 n1 : Fr P) (G : Gh) (H H1 : AH) (E : Nat → Prop) : Prop where
  e : ∀ o, E o → H1.get o = some .dead ∧ H.get o ≠ none
  o : ∀ o, ¬ E o → H1.get o = H.get o
  K : ∀ b, n1.K b ↔ (n0.K b ∨ ∃ o y, E o ∧ H.get o = some y ∧ blkOf G o y = some b)
  R : ∀ o, n1.R o → n0.R o
  M : ∀ b f, n1.M b = some f → n0.M b = some f ∨ f = G.mem b
  M0 : ∀ b f, n0.M b = some f → n1.M b = some f
  M1 : ∀ o y b, E o → H.get o = some y → blkOf G o y = some b → ¬ n0.K b → n1.M b = some (G.mem b)

theorem Aside.ex (n0 : Fr P) (G : Gh) (H H1 : AH) (E : Nat → Prop) (h1 : ∀ o, E o → H1.get o = some .dead ∧ H.get o ≠ none) (h2 : ∀ o, ¬ E o → H1.get o = H.get o) : ∃ n1, Aside n0 n1 G H H1 E ∧ n1.R = n0.R := by
  classical
  refine ⟨{ K := fun b => n0.K b ∨ ∃ o y, E o ∧ H.get o = some y ∧ blkOf G o y = some b, R := n0.R, M := fun b => if n0.K b then n0.M b else if ∃ o y, E o ∧ H.get o = some y ∧ blkOf G o y = some b then some (G.mem b) else none, hM := ?_ }, ⟨h1, h2, fun b => Iff.rfl, fun _ h => h, ?_, ?_, ?_⟩, rfl⟩
  · intro b f h
    split at h
    · exact .inl ‹_›
    · split at h
      · exact .inr ‹_›
      · cases h
  · intro b f h
    simp only at h
    split at h
    · exact .inl h
    · split at h
      · cases h; exact .inr rfl
      · cases h
  · intro b f h
    simp only
    rw [if_pos (n0.hM b f h)]
    exact h
  · intro o y b he hy hb hk
    simp only
    rw [if_neg hk, if_pos ⟨o, y, he, hy, hb⟩]

theorem WRel.aside {E : Nat → Prop} (h : WRel n0 w0 G H w) (A : Aside n0 n1 G H H1 E) : WRel n1 w G H1 w := by
  refine ⟨Keeps.refl _ _, fun b hb => ?_, h.mem, fun o x hx => ?_, fun o o' x x' b hx hx' hb hb' => ?_, fun b hb => ?_, fun o ho => ?_, fun o ho => ?_, fun b f hf k => ?_⟩
  · rcases (A.K b).1 hb with hb | ⟨o, y, _, hy, hb⟩
    · exact h.size b hb
    · exact (h.blk_lt hy hb).2
  · by_cases he : E o
    · rw [(A.e o he).1] at hx; cases hx; trivial
    · rw [A.o o he] at hx
      refine (h.obj o x hx).moreK fun b hb hk => ?_
      rcases (A.K b).1 hk with hk | ⟨o2, y, he2, hy, hb2⟩
      · exact (h.blk_lt hx hb).1 hk
      · have := h.sep o o2 x y b hx hy hb hb2
        subst this
        exact he he2
  · by_cases he : E o
    · rw [(A.e o he).1] at hx; cases hx; cases hb
    by_cases he' : E o'
    · rw [(A.e o' he').1] at hx'; cases hx'; cases hb'
    rw [A.o o he] at hx
    rw [A.o o' he'] at hx'
    exact h.sep o o' x x' b hx hx' hb hb'
  · obtain ⟨⟨h1, h2⟩, h3⟩ := h.lt b hb
    refine ⟨⟨fun hk => ?_, h2⟩, fun o x hx hb' => ?_⟩
    · rcases (A.K b).1 hk with hk | ⟨o, y, _, hy, hb⟩
      · exact h1 hk
      · exact h3 o y hy hb
    · by_cases he : E o
      · rw [(A.e o he).1] at hx; cases hx; cases hb'
      · rw [A.o o he] at hx
        exact h3 o x hx hb'
  · by_cases he : E o
    · rw [(A.e o he).1] at ho; cases ho
    · rw [A.o o he] at ho
      exact h.fresh o ho
  · have hr := h.res o (A.R o ho)
    refine ⟨hr.1, ?_⟩
    by_cases he : E o
    · exact (A.e o he).1
    · rw [A.o o he]; exact hr.2
  · rcases A.M b f hf with hf | rfl
    · exact h.bare b f hf k
    · rfl

theorem WRel.back {E : Nat → Prop} (h : WRel n0 w0 G H w) (A : Aside n0 n1 G H H1 E) (hR : n1.R = n0.R) (hG : G.le G') (h' : WRel n1 w G' H1' w') (hE : ∀ o, E o → H'.get o = H.get o ∧ H1'.get o = some .dead) (hO : ∀ o, ¬ E o → H'.get o = H1'.get o) : WRel n0 w0 G' H' w' := by
  have hK : ∀ b, n0.K b → n1.K b := fun b hb => (A.K b).2 (.inl hb)
  have hEK : ∀ o x b, E o → H.get o = some x → blkOf G o x = some b → n1.K b := fun o x b h1 h2 h3 => (A.K b).2 (.inr ⟨o, x, h1, h2, h3⟩)
  refine ⟨h.below.trans ⟨h'.below.os, h'.below.tape, h'.below.output, h'.below.size, fun k hk => h'.below.block k (hK k hk)⟩, fun b hb => h'.size b (hK b hb), h'.mem, fun o x hx => ?_, fun o o' x x' b hx hx' hb hb' => ?_, fun b hb => ?_, fun o ho => ?_, fun o ho => ?_, fun b f hf k => h'.bare b f (A.M0 b f hf) k⟩
  · by_cases he : E o
    · rw [(hE o he).1] at hx
      refine (h.obj o x hx).mono hG fun b hb => ⟨h'.below.block b (hEK o x b he hx hb), fun k => ?_⟩
      exact h'.bare b _ (A.M1 o x b he hx hb (h.blk_lt hx hb).1) k
    · rw [hO o he] at hx
      exact (h'.obj o x hx).lessK hK
  · by_cases he : E o
    · rw [(hE o he).1] at hx
      have hb1 := h.blk_same hG hx hb
      by_cases he' : E o'
      · rw [(hE o' he').1] at hx'
        exact h.sep o o' x x' b hx hx' hb1 (h.blk_same hG hx' hb')
      · rw [hO o' he'] at hx'
        exact absurd (hEK o x b he hx hb1) (h'.blk_lt hx' hb').1
    · rw [hO o he] at hx
      by_cases he' : E o'
      · rw [(hE o' he').1] at hx'
        exact absurd (hEK o' x' b he' hx' (h.blk_same hG hx' hb')) (h'.blk_lt hx hb).1
      · rw [hO o' he'] at hx'
        exact h'.sep o o' x x' b hx hx' hb hb'
  · obtain ⟨⟨h1, h2⟩, h3⟩ := h'.lt b hb
    refine ⟨⟨fun hk => h1 (hK b hk), h2⟩, fun o x hx hb' => ?_⟩
    by_cases he : E o
    · rw [(hE o he).1] at hx
      exact h1 (hEK o x b he hx (h.blk_same hG hx hb'))
    · rw [hO o he] at hx
      exact h3 o x hx hb'
  · by_cases he : E o
    · rw [(hE o he).1] at ho
      exact absurd ho (A.e o he).2
    · rw [hO o he] at ho
      exact h'.fresh o ho
  · have hr := h'.res o (by rw [hR]; exact ho)
    refine ⟨hr.1, ?_⟩
    by_cases he : E o
    · rw [(hE o he).1]; exact (h.res o ho).2
    · rw [hO o he]; exact hr.2

section
variable {ops : Array Oper} {ms : List Nat} {L : List AOper} {call : Caller} {base : Nat} {st : Nat → ASt} {hs : Nat → List AH} {val : Nat → AV} {mk : Nat → Option AObj} {T : Nat → Bool} {cp : Nat} {a : Act}

/-- Between two operations of the chain: the next number and the deferred calls stay. -/
theorem canon_between_n (R : Dr P ops ms L call base st hs val mk) {cp : Nat} : ∀ d, cp + d ≤ L.length → (∀ (q : Nat) (o : AOper), cp ≤ q → q < cp + d → L[q]? = some o → o.op.chain = false) → (st (cp + d)).H.n = (st cp).H.n ∧ (st (cp + d)).ds = (st cp).ds := by
  intro d
  induction d with
  | zero => intro _ _; exact ⟨rfl, rfl⟩
  | succ d ih =>
    intro hd hno
    obtain ⟨i1, i2⟩ := ih (by omega) (fun q o h1 h2 => hno q o h1 (by omega))
    obtain ⟨o, ho⟩ : ∃ o, L[cp + d]? = some o := ⟨L[cp + d], List.getElem?_eq_getElem (by omega)⟩
    have hst := R.tr _ o ho
    have hch := hno (cp + d) o (by omega) (by omega) ho
    show (st (cp + d + 1)).H.n = _ ∧ (st (cp + d + 1)).ds = _
    generalize mk (cp + d) = m at hst
    generalize st (cp + d + 1) = s1 at hst
    generalize hs (cp + d + 1) = h1' at hst
    generalize val (cp + d) = v at hst
    cases hst with
    | chain hc => rw [hch] at hc; cases hc
    | make => exact ⟨i1, i2⟩
    | read => exact ⟨i1, i2⟩
    | skip => exact ⟨i1, i2⟩

/-- An operation of the chain, in the state of a listed set. -/
theorem chain_step (hext : ExtOk P) (hcall : CallOk P call) (R : Dr P ops ms L call base st hs val mk) (hI : InvD n0 w0 G0 ms L base st val mk T cp G a w) {p : Nat} {o : AOper} (hp : L[p]? = some o) (hT : T p = false)
    (hready : ∀ (q : Nat) (o' : AOper), L[q]? = some o' → (ms.getD o.idx 0).testBit o'.idx = true → T q = true) (hc : o.op.chain = true) {r : Option Nat} (hr : r = none ∨ ∀ f as, o.op ≠ .defer f as) {n : Nat} {Q : Exit → Act → World → Prop} :
    wpOpIn (Wd r) n P ops Q o.idx (fun a' w' => ∃ G', InvD n0 w0 G0 ms L base st val mk (plus T p) (p + 1) G' a' w') a w := by
  have hlt : p < L.length := (List.getElem?_eq_some_iff.1 hp).1
  obtain ⟨x, hl⟩ := R.looked p o hp
  obtain ⟨ann, hpr⟩ := hl.op
  have hE := rep_operand R hI hp hT hready hl.at_ hpr
  have hcp := silent_ge R hI hT
  have hwant : Region.wanted x (yielded ops a.tmps) = wanted (st p).σ o.guard := wanted_eq hl.guard (fun t b hg => rep_tmp R hI hp hT hready hl.at_ (by
    unfold tmpsOf
    rw [hg]
    simp))
  have hall : ∀ q, q < p → T q = true := fun q hq => by
    obtain ⟨oq, hoq⟩ : ∃ o, L[q]? = some o := ⟨L[q], List.getElem?_eq_getElem (by omega)⟩
    exact hready q oq hoq (R.D.lazy p o hp hc q oq hq hoq)
  have hno : ∀ (q : Nat) (oq : AOper), cp ≤ q → q < p → L[q]? = some oq → oq.op.chain = false := fun q oq h1 h2 h3 => by
    cases hcq : oq.op.chain with
    | false => rfl
    | true => have := (hI.chain q oq h3 hcq).1 (hall q h2); omega
  have hbt := canon_between R.D.inj R.tr (cp := cp) (p - cp) (by omega) (fun q oq e1 e2 e3 => hno q oq e1 (by omega) e3)
  have hbn := canon_between_n R (cp := cp) (p - cp) (by omega) (fun q oq e1 e2 e3 => hno q oq e1 (by omega) e3)
  rw [show cp + (p - cp) = p by omega] at hbt hbn
  have hmp : mk p = none := by
    cases hm : mk p with
    | none => rfl
    | some y =>
      have hst := R.tr p o hp
      rw [hm] at hst
      generalize st (p + 1) = s1 at hst
      generalize hs (p + 1) = h1' at hst
      generalize val p = v at hst
      cases hst with
      | make h => rw [hc] at h; cases h
  -- what is set aside
  let E : Nat → Prop := fun z => ∃ q oq y, L[q]? = some oq ∧ mk q = some y ∧ T q = true ∧ p < q ∧ z = base + oq.idx
  have hdead : ∀ z, E z → ∀ k, k ≤ p + 1 → (st k).H.get z = some .dead := by
    rintro z ⟨q, oq, y, e1, e2, e3, e4, rfl⟩ k hk
    exact (canon hcall R k (by omega)).2.2 q oq (by omega) e1 (R.slot (mk_makes R e1 (by rw [e2]; simp)).1 q oq e1).2
  have hEs : ∀ z, E z → (HS L base mk T cp (st cp).H).get z ≠ none := by
    rintro z ⟨q, oq, y, e1, e2, e3, e4, rfl⟩
    rw [HS_slot R.D.inj e1 e2 e3 (by omega)]; simp
  have hOs : ∀ z, ¬ E z → (st p).H.get z = (HS L base mk T cp (st cp).H).get z := by
    intro z hz
    rw [hbt z]
    rcases HS_cases (T := T) (cp := cp) (H := (st cp).H) (mk := mk) (base := base) R.D.inj z with ⟨q, oq, yq, e1, e2, e3, e4, rfl, e5⟩ | ⟨e1, e2⟩
    · have hq : q < p := by
        rcases Nat.lt_trichotomy q p with h | h | h
        · exact h
        · subst h; rw [hT] at e3; cases e3
        · exact absurd ⟨q, oq, yq, e1, e2, e3, h, rfl⟩ hz
      rw [e5, HS_slot R.D.inj e1 e2 (by simpa using hq) e4]
    · rw [e2, HS_other]
      intro q oq y g1 g2 g3 g4
      exact e1 q oq y g1 g2 (hall q (by simpa using g3)) g4
  obtain ⟨n1, A, hR1⟩ := Aside.ex (n0.withR (KeptR n0 L base T)) G (HS L base mk T cp (st cp).H) (st p).H E (fun z hz => ⟨hdead z hz p (by omega), hEs z hz⟩) hOs
  have hW1 : WRel n1 w G (st p).H w := hI.rel.aside A
  have hst := R.tr p o hp
  rw [hmp] at hst
  generalize hs1 : st (p + 1) = s1 at hst
  generalize hs2 : hs (p + 1) = h1' at hst
  generalize hs3 : val p = vp at hst
  cases hst with
  | read h => rw [hc] at h; cases h
  | skip h => rw [hc] at h; cases h
  | chain _ he hput =>
  refine wpOpIn_mono (fun a' w' => ?_) (step_core hext hcall hl hr hW1 hE hwant (by rw [hbn.2]; exact hI.defs) (canon hcall R p (by omega)).1 he)
  rintro ⟨G', v, u, g1, g2, g3, g4, g5, g6, g7⟩
  have hsz : (a.put o.dst u).tmps.size = a.tmps.size := by cases o.dst <;> simp [Act.put]
  refine ⟨G', by omega, fun q oq hq hcq => ?_, fun q hq => ?_, fun q oq hq hTq q' oq' hq' hb => ?_, hI.g.trans g1, ?_, ?_, fun t ht => ?_, ?_, hI.out⟩
  · rw [mem_plus]
    refine ⟨fun h => ?_, fun h => ?_⟩
    · rcases h with h | h
      · have := (hI.chain q oq hq hcq).1 h
        omega
      · omega
    · by_cases hqp : q = p
      · exact .inr hqp
      · exact .inl (hall q (by omega))
  · by_cases hqp : q = p
    · exact mem_plus.2 (.inr hqp)
    · exact mem_plus.2 (.inl (hall q (by omega)))
  · rcases mem_plus.1 hTq with h | rfl
    · exact mem_plus.2 (.inl (hI.down q oq hq h q' oq' hq' hb))
    · rw [hp] at hq; cases hq
      exact mem_plus.2 (.inl (hready q' oq' hq' hb))
  · -- the heap
    have hW2 : WRel (n0.withR (KeptR n0 L base T)) w0 G' (HS L base mk (plus T p) (p + 1) (st (p + 1)).H) w' := by
      refine hI.rel.back A hR1 g1 (H1' := s1.H) g2 (fun z hz => ?_) (fun z hz => ?_)
      · refine ⟨?_, by rw [← hs1]; exact hdead z hz (p + 1) (Nat.le_refl _)⟩
        obtain ⟨q, oq, y, e1, e2, e3, e4, rfl⟩ := hz
        rw [HS_slot R.D.inj e1 e2 (mem_plus.2 (.inl e3)) (by omega), HS_slot R.D.inj e1 e2 e3 (by omega)]
      · rw [hs1]
        refine HS_other fun q oq y e1 e2 e3 e4 hz' => hz ⟨q, oq, y, e1, e2, ?_, by omega, hz'⟩
        exact (mem_plus.1 e3).resolve_right (by omega)
    exact hW2.withR fun q hq => hW2.res q (kept_plus hq)
  · rw [g5, hsz]; exact hI.size
  · rw [g5] at ht ⊢
    rw [hsz] at ht
    by_cases hd : o.dst = some t
    · rw [look_last hp (mem_plus.2 (.inr rfl)) hd]
      · have e1 : (a.put o.dst u).tmps.getD t undef = u := by
          rw [hd]
          simp [Act.put, Array.getD_eq_getD_getElem?, ht]
        have e2 : val p = v := by
          have h0 : (st p).σ.length = (st 0).σ.length := (look_prefix R.tr t (by rw [← hI.size]; exact ht) p (by omega)).1
          have htl : t < (st p).σ.length := by rw [h0, ← hI.size]; exact ht
          rw [hput, hd] at g4
          simp only [put] at g4
          have := congrArg (fun l : List AV => l[t]?) g4
          simp [htl] at this
          rw [hs3, this]
        rw [e1, e2]
        exact g3
      · intro q oq hpq hq hTq hdq
        have hTq : T q = true := (mem_plus.1 hTq).resolve_right (by omega)
        obtain ⟨x1, y1, e1, e2, e3⟩ := R.D.temps p q o oq hpq hp hq
        obtain ⟨y, hy⟩ := R.looked q oq hq
        rw [hl.at_] at e1; cases e1
        rw [hy.at_] at e2; cases e2
        rcases e3 with e3 | ⟨e3, _⟩
        · have := hI.down q oq hq hTq p o hp e3
          rw [hT] at this; cases this
        · refine e3 t ?_ (hy.dst ▸ hdq)
          unfold tmpsOf
          rw [← hl.dst, hd]
          simp
    · have e1 : look L val (st 0).σ (plus T p) t = look L val (st 0).σ T t := by
        refine look_congr fun q oq hq hdq => ?_
        have : q ≠ p := by rintro rfl; rw [hp] at hq; cases hq; exact hd hdq
        simp [plus, this]
      have e2 : (a.put o.dst u).tmps.getD t undef = a.tmps.getD t undef := by
        cases hdo : o.dst with
        | none => rfl
        | some d =>
          have : d ≠ t := by rintro rfl; exact hd hdo
          simp [Act.put, Array.getD_eq_getD_getElem?, this]
      rw [e1, e2]
      exact (hI.tmps t ht).mono g1
  · rw [hs1]; exact g6

end

end Go.Abs
