/-
  A REGION THAT DRAWS ITS ORDER.
-/
import Derived.Test.YtpkgbbkhipkepaaGreatAbsSeq
namespace Go.Abs
open Go.RowKit

variable {P : Program} {n0 : Fr P} {w0 : World} {G G0 : Gh} {H H' : AH} {w : World} {σ : List AV} {v : AV}

/-- One step of the canonical run. -/
inductive StepD (call : Caller) (base : Nat) (o : AOper) (s : ASt) (hist : List AH) : ASt → List AH → AV → Option AObj → Prop where
  | chain {s' : ASt} {v : AV} : o.op.chain = true → evalOp call o s = some s' → s'.σ = put s.σ o.dst v → StepD call base o s hist s' (s.H :: hist) v none
  | make {v : AV} {y : AObj} : o.op.chain = false → o.op.makes = true → wanted s.σ o.guard = true → base + o.idx < s.H.n → aop s.σ { s.H with n := base + o.idx } o.op = some (v, ({ s.H with n := base + o.idx } : AH).push y) →
      StepD call base o s hist { s with σ := put s.σ o.dst v, H := s.H.set (base + o.idx) y } hist v (some y)
  | read {v : AV} : o.op.chain = false → o.op.makes = false → wanted s.σ o.guard = true → aop s.σ s.H o.op = some (v, s.H) → backs o.op s.σ v (hist.take o.back) = true →
      StepD call base o s hist { s with σ := put s.σ o.dst v } hist v none
  | skip : o.op.chain = false → wanted s.σ o.guard = false → StepD call base o s hist { s with σ := put s.σ o.dst .und } hist .und none

theorem evalOp_put {call : Caller} {o : AOper} {s s' : ASt} (h : evalOp call o s = some s') : ∃ v, s'.σ = put s.σ o.dst v := by
  unfold evalOp at h
  split at h
  · split at h
    · split at h
      · split at h
        · cases h; exact ⟨_, rfl⟩
        · cases h
      · cases h
    · split at h
      · cases h; exact ⟨_, rfl⟩
      · cases h
    · split at h
      · cases h; exact ⟨_, rfl⟩
      · cases h
  · cases h; exact ⟨_, rfl⟩

theorem evalDraw_step {call : Caller} {base : Nat} {o : AOper} {rest : List AOper} {s s' : ASt} {hist : List AH} (h : evalDraw call base (o :: rest) s hist = some s') :
    ∃ s1 hist1 v mk, StepD call base o s hist s1 hist1 v mk ∧ evalDraw call base rest s1 hist1 = some s' := by
  simp only [evalDraw] at h
  split at h
  · rename_i hc
    split at h
    · rename_i s1 h1
      obtain ⟨v, hv⟩ := evalOp_put h1
      exact ⟨s1, _, v, none, .chain hc h1 hv, h⟩
    · cases h
  · rename_i hc
    have hc : o.op.chain = false := by simpa using hc
    split at h
    · rename_i hw
      split at h
      · cases h
      rename_i hsl
      split at h
      · rename_i v H1 ha
        split at h
        · rename_i hb
          by_cases hm : o.op.makes = true
          · obtain ⟨y, rfl, _⟩ := aop_makes hm ha
            have hlt : base + o.idx < s.H.n := by
              rcases Nat.lt_or_ge (base + o.idx) s.H.n with h | h
              · exact h
              · exact absurd (by rw [hm]; simpa using h) hsl
            exact ⟨_, _, v, some y, .make hc hm hw hlt ha, h⟩
          · have hm : o.op.makes = false := by simpa using hm
            obtain ⟨e1, e2⟩ := aop_local (H1 := { s.H with n := base + o.idx }) (H2 := s.H) hc hm (fun _ _ _ _ _ e _ => e) ha
            subst e1
            exact ⟨_, _, v, none, .read hc hm hw e2 hb, h⟩
        · cases h
      · cases h
    · rename_i hw
      exact ⟨_, _, .und, none, .skip hc (by simpa using hw), h⟩

/-- The canonical run, step by step. -/
theorem evalDraw_trace {call : Caller} {base : Nat} : ∀ (L : List AOper) (s s' : ASt) (hist : List AH), evalDraw call base L s hist = some s' →
    ∃ (st : Nat → ASt) (hs : Nat → List AH) (val : Nat → AV) (mk : Nat → Option AObj), st 0 = s ∧ hs 0 = hist ∧ st L.length = s' ∧
      ∀ (p : Nat) (o : AOper), L[p]? = some o → StepD call base o (st p) (hs p) (st (p + 1)) (hs (p + 1)) (val p) (mk p) := by
  intro L
  induction L with
  | nil =>
    intro s s' hist h
    cases h
    exact ⟨fun _ => s, fun _ => hist, fun _ => .und, fun _ => none, rfl, rfl, rfl, fun p o h => by simp at h⟩
  | cons o L ih =>
    intro s s' hist h
    obtain ⟨s1, hist1, v, m, h1, h2⟩ := evalDraw_step h
    obtain ⟨st, hs, val, mk, e1, e2, e3, e4⟩ := ih s1 s' hist1 h2
    refine ⟨fun | 0 => s | p + 1 => st p, fun | 0 => hist | p + 1 => hs p, fun | 0 => v | p + 1 => val p, fun | 0 => m | p + 1 => mk p, rfl, rfl, e3, fun p o' hp => ?_⟩
    cases p with
    | zero =>
      simp at hp
      subst hp
      simp only [e1, e2]
      exact h1
    | succ p => exact e4 p o' (by simpa using hp)

/-! ### The order -/
theorem drawGo_spec {ops : Array Oper} {ms : List Nat} : ∀ (rest done : List AOper), drawGo ops ms done rest = true → ∀ (p : Nat) (o : AOper), rest[p]? = some o → drawChk ops ms (done ++ rest.take p) o (rest.drop (p + 1)) = true := by
  intro rest
  induction rest with
  | nil => intro done _ p o h; simp at h
  | cons x rest ih =>
    intro done h p o hp
    simp only [drawGo, Bool.and_eq_true] at h
    cases p with
    | zero =>
      simp at hp
      subst hp
      simpa using h.1
    | succ p =>
      have := ih (done ++ [x]) h.2 p o (by simpa using hp)
      simpa using this

theorem maskOf_spec (ms : List Nat) (j : Nat) : ∀ (as : List Nat) (s : Nat), (as.foldl (fun s k => s ||| 2 ^ k ||| ms.getD k 0) s).testBit j = true → s.testBit j = true ∨ ∃ k ∈ as, k = j ∨ (ms.getD k 0).testBit j = true := by
  intro as
  induction as with
  | nil => intro s h; exact .inl h
  | cons a as ih =>
    intro s h
    rcases ih _ h with h | ⟨k, hk, h⟩
    · simp only [Nat.testBit_or, Bool.or_eq_true, Nat.testBit_two_pow] at h
      rcases h with (h | h) | h
      · exact .inl h
      · exact .inr ⟨a, by simp, .inl (by simpa using h)⟩
      · exact .inr ⟨a, by simp, .inr h⟩
    · exact .inr ⟨k, List.mem_cons_of_mem _ hk, h⟩

theorem maskOf_acc (ms : List Nat) (j : Nat) : ∀ (as : List Nat) (s : Nat), s.testBit j = true → (as.foldl (fun s k => s ||| 2 ^ k ||| ms.getD k 0) s).testBit j = true := by
  intro as
  induction as with
  | nil => intro s h; exact h
  | cons a as ih => intro s h; exact ih _ (by simp [Nat.testBit_or, h])

theorem maskOf_mem (ms : List Nat) (j : Nat) : ∀ (as : List Nat) (s : Nat), j ∈ as → (as.foldl (fun s k => s ||| 2 ^ k ||| ms.getD k 0) s).testBit j = true := by
  intro as
  induction as with
  | nil => intro s h; cases h
  | cons a as ih =>
    intro s h
    rcases List.mem_cons.1 h with rfl | h
    · exact maskOf_acc ms j as _ (by simp [Nat.testBit_or])
    · exact ih _ h

/-- What the check says, by positions. -/
structure DrawS (ops : Array Oper) (ms : List Nat) (L : List AOper) : Prop where
  len : L.length = ops.size
  ex : ∀ i, i < ops.size → ∃ (p : Nat) (o : AOper), L[p]? = some o ∧ o.idx = i
  inj : ∀ (p q : Nat) (o o' : AOper), L[p]? = some o → L[q]? = some o' → o.idx = o'.idx → p = q
  clos : ∀ (i : Nat) (o : Oper), ops[i]? = some o → ∀ j, (ms.getD i 0).testBit j = true → ∃ k ∈ afters o, k = j ∨ (ms.getD k 0).testBit j = true
  lt : ∀ (i : Nat) (o : Oper), ops[i]? = some o → ∀ k ∈ afters o, k < ops.size
  mem : ∀ (i : Nat) (o : Oper), ops[i]? = some o → ∀ k ∈ afters o, (ms.getD i 0).testBit k = true
  pred : ∀ (p : Nat) (o : AOper), L[p]? = some o → ∀ j, j < ops.size → (ms.getD o.idx 0).testBit j = true → ∃ (q : Nat) (o' : AOper), q < p ∧ L[q]? = some o' ∧ o'.idx = j
  lazy : ∀ (p : Nat) (o : AOper), L[p]? = some o → o.op.chain = true → ∀ (q : Nat) (o' : AOper), q < p → L[q]? = some o' → (ms.getD o.idx 0).testBit o'.idx = true
  temps : ∀ (p q : Nat) (o o' : AOper), p < q → L[p]? = some o → L[q]? = some o' → ∃ (x y : Oper), ops[o.idx]? = some x ∧ ops[o'.idx]? = some y ∧
    ((ms.getD o'.idx 0).testBit o.idx = true ∨ ((∀ t ∈ tmpsOf x o.guard, y.dst ≠ some t) ∧ ∀ t ∈ tmpsOf y o'.guard, x.dst ≠ some t))
  back : ∀ (p : Nat) (o : AOper), L[p]? = some o → o.op.chain = false → ((L.take p).filter fun d => d.op.chain && !(ms.getD o.idx 0).testBit d.idx).length ≤ o.back

theorem drawOk_spec {ops : Array Oper} {ms : List Nat} {L : List AOper} (h : drawOk ops ms L = true) : DrawS ops ms L := by
  simp only [drawOk, Bool.and_eq_true, beq_iff_eq] at h
  obtain ⟨⟨⟨h1, h2⟩, h3⟩, h4⟩ := h
  have chk := fun p o hp => drawGo_spec L [] h4 p o hp
  simp only [List.nil_append] at chk
  have once : ∀ (p q : Nat) (o o' : AOper), p < q → L[p]? = some o → L[q]? = some o' → o.idx ≠ o'.idx := by
    intro p q o o' hpq hp hq he
    have := chk q o' hq
    simp only [drawChk, Bool.and_eq_true] at this
    have h0 := this.1.1.1.1
    simp only [Bool.not_eq_true', List.any_eq_false, beq_iff_eq] at h0
    refine h0 o ?_ he
    rw [List.mem_take_iff_getElem]
    obtain ⟨hl, rfl⟩ := List.getElem?_eq_some_iff.1 hp
    exact ⟨p, by omega, rfl⟩
  have lt : ∀ (i : Nat) (o : Oper), ops[i]? = some o → ms.getD i 0 = maskOf ms (afters o) ∧ ∀ k ∈ afters o, k < ops.size := by
    intro i o hi
    have hlt : i < ops.size := (Array.getElem?_eq_some_iff.1 hi).1
    have := List.all_eq_true.1 h3 i (by simpa using hlt)
    rw [hi] at this
    simp only [Bool.and_eq_true, beq_iff_eq, List.all_eq_true, decide_eq_true_eq] at this
    exact this
  refine ⟨h1, fun i hi => ?_, fun p q o o' hp hq he => ?_, fun i o hi j hj => ?_, fun i o hi => (lt i o hi).2, fun i o hi k hk => by rw [(lt i o hi).1]; exact maskOf_mem ms k _ _ hk, fun p o hp j hj hb => ?_, fun p o hp hc q o' hq hq' => ?_, fun p q o o' hpq hp hq => ?_, fun p o hp hc => ?_⟩
  · have := List.all_eq_true.1 h2 i (by simpa using hi)
    obtain ⟨o, ho, he⟩ := List.any_eq_true.1 this
    obtain ⟨p, hp, rfl⟩ := List.getElem_of_mem ho
    exact ⟨p, _, List.getElem?_eq_getElem hp, by simpa using he⟩
  · rcases Nat.lt_trichotomy p q with h | h | h
    · exact absurd he (once p q o o' h hp hq)
    · exact h
    · exact absurd he.symm (once q p o' o h hq hp)
  · rw [(lt i o hi).1] at hj
    rcases maskOf_spec ms j _ _ hj with h | h
    · simp at h
    · exact h
  · have := chk p o hp
    simp only [drawChk, Bool.and_eq_true] at this
    have h0 := List.all_eq_true.1 this.1.1.1.2 j (by simpa using hj)
    simp only [hb, Bool.not_true, Bool.false_or, List.any_eq_true, beq_iff_eq] at h0
    obtain ⟨d, hd, he⟩ := h0
    rw [List.mem_take_iff_getElem] at hd
    obtain ⟨q, hq, rfl⟩ := hd
    exact ⟨q, _, by omega, List.getElem?_eq_getElem (by omega), he⟩
  · have := chk p o hp
    simp only [drawChk, Bool.and_eq_true] at this
    have h0 := this.1.1.2
    simp only [hc, Bool.not_true, Bool.false_or, List.all_eq_true] at h0
    refine h0 o' ?_
    rw [List.mem_take_iff_getElem]
    obtain ⟨hl, rfl⟩ := List.getElem?_eq_some_iff.1 hq'
    exact ⟨q, by omega, rfl⟩
  · have := chk p o hp
    simp only [drawChk, Bool.and_eq_true] at this
    have h0 := this.1.2
    split at h0
    · rename_i x hx
      have hm : o' ∈ L.drop (p + 1) := by
        rw [List.mem_drop_iff_getElem]
        obtain ⟨hl, rfl⟩ := List.getElem?_eq_some_iff.1 hq
        exact ⟨q - (p + 1), by omega, by congr 1; omega⟩
      have h5 := List.all_eq_true.1 h0 o' hm
      split at h5
      · rename_i y hy
        refine ⟨x, y, hx, hy, ?_⟩
        simp only [Bool.or_eq_true, Bool.and_eq_true, List.all_eq_true, bne_iff_ne, ne_eq] at h5
        exact h5.symm
      · cases h5
    · cases h0
  · have := chk p o hp
    simp only [drawChk, Bool.and_eq_true] at this
    simpa [hc] using this.2

/-! ### Temporaries -/
/-- What the positions of T have put into a temporary. -/
def lookF (L : List AOper) (val : Nat → AV) (T : Nat → Bool) (t : Nat) (acc : AV) (p : Nat) : AV :=
  match L[p]? with
  | some o => if T p = true ∧ o.dst = some t then val p else acc
  | none => acc

def look (L : List AOper) (val : Nat → AV) (σ0 : List AV) (T : Nat → Bool) (t : Nat) : AV := (List.range L.length).foldl (lookF L val T t) (σ0.getD t .und)

theorem look_congr {L : List AOper} {val : Nat → AV} {σ0 : List AV} {T T' : Nat → Bool} {t : Nat} (h : ∀ (p : Nat) (o : AOper), L[p]? = some o → o.dst = some t → T p = T' p) : look L val σ0 T t = look L val σ0 T' t := by
  unfold look
  congr 1
  funext acc p
  unfold lookF
  cases hp : L[p]? with
  | none => rfl
  | some o =>
    by_cases hd : o.dst = some t
    · simp [h p o hp hd]
    · simp [hd]

theorem foldl_none {L : List AOper} {val : Nat → AV} {T : Nat → Bool} {t : Nat} : ∀ (l : List Nat) (acc : AV), (∀ p ∈ l, ∀ o, L[p]? = some o → T p = true → o.dst ≠ some t) → l.foldl (lookF L val T t) acc = acc := by
  intro l
  induction l with
  | nil => intro acc _; rfl
  | cons p l ih =>
    intro acc h
    rw [List.foldl_cons, ih _ (fun q hq => h q (List.mem_cons_of_mem _ hq))]
    unfold lookF
    cases hp : L[p]? with
    | none => rfl
    | some o =>
      simp only
      rw [if_neg]
      rintro ⟨h1, h2⟩
      exact h p (by simp) o hp h1 h2

/-- The last of them. -/
theorem look_last {L : List AOper} {val : Nat → AV} {σ0 : List AV} {T : Nat → Bool} {t p : Nat} {o : AOper} (hp : L[p]? = some o) (hT : T p = true) (hd : o.dst = some t) (hl : ∀ q o', p < q → L[q]? = some o' → T q = true → o'.dst ≠ some t) : look L val σ0 T t = val p := by
  have hlt : p < L.length := (List.getElem?_eq_some_iff.1 hp).1
  have hr : List.range L.length = List.range p ++ p :: List.range' (p + 1) (L.length - (p + 1)) := by
    obtain ⟨m, hm⟩ : ∃ m, L.length = p + (m + 1) := ⟨L.length - (p + 1), by omega⟩
    rw [hm, show p + (m + 1) - (p + 1) = m by omega, ← List.range'_succ, List.range_eq_range', List.range_eq_range', ← List.range'_append_1, Nat.zero_add]
  unfold look
  rw [hr, List.foldl_append, List.foldl_cons, foldl_none]
  · simp [lookF, hp, hT, hd]
  · intro q hq o' ho' hTq
    simp only [List.mem_range'_1] at hq
    exact hl q o' (by omega) ho' hTq

theorem StepD.put {call : Caller} {base : Nat} {o : AOper} {s s' : ASt} {h h' : List AH} {v : AV} {m : Option AObj} (hs : StepD call base o s h s' h' v m) : s'.σ = put s.σ o.dst v := by
  cases hs <;> first | assumption | rfl

/-- In the canonical order the temporaries hold what was put last. -/
theorem look_prefix {call : Caller} {base : Nat} {L : List AOper} {st : Nat → ASt} {hs : Nat → List AH} {val : Nat → AV} {mk : Nat → Option AObj}
    (htr : ∀ (p : Nat) (o : AOper), L[p]? = some o → StepD call base o (st p) (hs p) (st (p + 1)) (hs (p + 1)) (val p) (mk p)) (t : Nat) (ht : t < (st 0).σ.length) :
    ∀ p, p ≤ L.length → (st p).σ.length = (st 0).σ.length ∧ (st p).σ.getD t .und = look L val (st 0).σ (fun q => q < p) t := by
  intro p
  induction p with
  | zero =>
    intro _
    refine ⟨rfl, ?_⟩
    unfold look
    rw [foldl_none]
    intro q _ o _ hq
    simp at hq
  | succ p ih =>
    intro hp
    obtain ⟨h1, h2⟩ := ih (by omega)
    obtain ⟨o, ho⟩ : ∃ o, L[p]? = some o := ⟨L[p], List.getElem?_eq_getElem (by omega)⟩
    have hput := (htr p o ho).put
    rw [hput]
    cases hd : o.dst with
    | none =>
      refine ⟨h1, ?_⟩
      simp only [put]
      rw [h2]
      refine look_congr fun q o' hq hd' => ?_
      have : q ≠ p := by
        rintro rfl
        rw [ho] at hq; cases hq
        rw [hd] at hd'; cases hd'
      simp
      omega
    | some d =>
      simp only [put, List.length_set]
      refine ⟨h1, ?_⟩
      by_cases hdt : d = t
      · subst hdt
        rw [look_last (p := p) ho (by simp) hd (fun q o' hq _ hT => by simp at hT; omega)]
        simp [List.getD_eq_getElem?_getD, h1, ht]
      · have : ((st p).σ.set d (val p)).getD t .und = (st p).σ.getD t .und := by
          simp [List.getD_eq_getElem?_getD, hdt]
        rw [this, h2]
        refine look_congr fun q o' hq hd' => ?_
        have : q ≠ p := by
          rintro rfl
          rw [ho] at hq; cases hq
          rw [hd] at hd'; cases hd'; exact hdt rfl
        simp
        omega

/-! ### The heap -/
def hsF (L : List AOper) (base : Nat) (mk : Nat → Option AObj) (T : Nat → Bool) (cp : Nat) (H : AH) (p : Nat) : AH :=
  match L[p]?, mk p with
  | some o, some y => if T p = true ∧ cp ≤ p then H.set (base + o.idx) y else H
  | _, _ => H

/-- A heap, and behind it what the positions of T from cp on have made. -/
def HS (L : List AOper) (base : Nat) (mk : Nat → Option AObj) (T : Nat → Bool) (cp : Nat) (H : AH) : AH := (List.range L.length).foldl (hsF L base mk T cp) H

theorem hsF_other {L : List AOper} {base : Nat} {mk : Nat → Option AObj} {T : Nat → Bool} {cp x : Nat} : ∀ (l : List Nat) (H : AH), (∀ p ∈ l, ∀ o y, L[p]? = some o → mk p = some y → T p = true → cp ≤ p → x ≠ base + o.idx) → (l.foldl (hsF L base mk T cp) H).get x = H.get x := by
  intro l
  induction l with
  | nil => intro H _; rfl
  | cons p l ih =>
    intro H h
    rw [List.foldl_cons, ih _ (fun q hq => h q (List.mem_cons_of_mem _ hq))]
    unfold hsF
    split
    · rename_i o y ho hy
      split
      · rename_i hc
        rw [AH.get_set, if_neg (h p (by simp) o y ho hy hc.1 hc.2)]
      · rfl
    · rfl

theorem HS_other {L : List AOper} {base : Nat} {mk : Nat → Option AObj} {T : Nat → Bool} {cp x : Nat} {H : AH} (h : ∀ p o y, L[p]? = some o → mk p = some y → T p = true → cp ≤ p → x ≠ base + o.idx) : (HS L base mk T cp H).get x = H.get x :=
  hsF_other _ _ fun p _ o y ho hy hT hc => h p o y ho hy hT hc

theorem HS_slot {L : List AOper} {base : Nat} {mk : Nat → Option AObj} {T : Nat → Bool} {cp p : Nat} {H : AH} {o : AOper} {y : AObj} (hinj : ∀ (p q : Nat) (o o' : AOper), L[p]? = some o → L[q]? = some o' → o.idx = o'.idx → p = q)
    (ho : L[p]? = some o) (hy : mk p = some y) (hT : T p = true) (hc : cp ≤ p) : (HS L base mk T cp H).get (base + o.idx) = some y := by
  have hlt : p < L.length := (List.getElem?_eq_some_iff.1 ho).1
  have hr : List.range L.length = List.range p ++ p :: List.range' (p + 1) (L.length - (p + 1)) := by
    obtain ⟨m, hm⟩ : ∃ m, L.length = p + (m + 1) := ⟨L.length - (p + 1), by omega⟩
    rw [hm, show p + (m + 1) - (p + 1) = m by omega, ← List.range'_succ, List.range_eq_range', List.range_eq_range', ← List.range'_append_1, Nat.zero_add]
  unfold HS
  rw [hr, List.foldl_append, List.foldl_cons, hsF_other]
  · unfold hsF
    rw [ho, hy]
    simp [hT, hc, AH.get_set]
  · intro q hq o' y' ho' _ _ _ he
    simp only [List.mem_range'_1] at hq
    have := hinj p q o o' ho ho' (by omega)
    omega

theorem WRel.ext (h : WRel n0 w0 G H w) (he : ∀ o, H'.get o = H.get o) : WRel n0 w0 G H' w :=
  ⟨h.below, h.size, h.mem, fun o x hx => h.obj o x (by rw [← he]; exact hx), fun o o' x x' b hx hx' => h.sep o o' x x' b (by rw [← he]; exact hx) (by rw [← he]; exact hx'),
    fun b hb => ⟨(h.lt b hb).1, fun o x hx => (h.lt b hb).2 o x (by rw [← he]; exact hx)⟩, fun o ho => h.fresh o (by rw [← he]; exact ho), fun o ho => ⟨(h.res o ho).1, by rw [he]; exact (h.res o ho).2⟩, h.bare⟩

/-- Fewer numbers reserved. -/
def Fr.withR (n0 : Fr P) (R : Nat → Prop) : Fr P := { n0 with R := R }

theorem ObjOk.withR {R : Nat → Prop} {o : Nat} {x : AObj} (h : ObjOk G w n0 o x) : ObjOk G w (n0.withR R) o x := by
  cases x <;> exact h

theorem WRel.withR (h : WRel n0 w0 G H w) {R : Nat → Prop} (hR : ∀ o, R o → Und G o ∧ H.get o = some .dead) : WRel (n0.withR R) w0 G H w :=
  ⟨h.below, h.size, h.mem, fun o x hx => (h.obj o x hx).withR, h.sep, h.lt, h.fresh, hR, h.bare⟩

theorem evalOp_ext {call : Caller} (hcall : CallOk P call) {o : AOper} {s s' : ASt} (hw : WF s.H) (h : evalOp call o s = some s') : Ext s.H s'.H := by
  unfold evalOp at h
  split at h
  · split at h
    · split at h
      · split at h
        · rename_i hc; cases h; exact hcall.ext hc hw
        · cases h
      · cases h
    · split at h
      · cases h; exact Ext.refl _
      · cases h
    · split at h
      · rename_i ha; cases h; exact aop_ext hw.next ha
      · cases h
  · cases h; exact Ext.refl _

theorem wf_set {o : Nat} {y : AObj} (hw : WF H) (ho : o < H.n) : WF (H.set o y) := by
  intro x hx
  rw [AH.n_set] at hx
  rw [AH.get_set, if_neg (by omega)]
  exact hw x hx

/-- The canonical heaps: nothing at numbers that are not taken; a slot is dead until its operation's turn. -/
theorem canon_heap {call : Caller} (hcall : CallOk P call) {base : Nat} {L : List AOper} {st : Nat → ASt} {hs : Nat → List AH} {val : Nat → AV} {mk : Nat → Option AObj}
    (hinj : ∀ (p q : Nat) (o o' : AOper), L[p]? = some o → L[q]? = some o' → o.idx = o'.idx → p = q)
    (htr : ∀ (p : Nat) (o : AOper), L[p]? = some o → StepD call base o (st p) (hs p) (st (p + 1)) (hs (p + 1)) (val p) (mk p)) (hw : WF (st 0).H)
    (_hn : ∀ (p : Nat) (o : AOper), L[p]? = some o → mk p ≠ none → base + o.idx < (st 0).H.n) :
    ∀ p, p ≤ L.length → WF (st p).H ∧ (st 0).H.n ≤ (st p).H.n ∧ ∀ (q : Nat) (o : AOper), p ≤ q → L[q]? = some o → (st 0).H.get (base + o.idx) = some .dead → (st p).H.get (base + o.idx) = some .dead := by
  intro p
  induction p with
  | zero => intro _; exact ⟨hw, Nat.le_refl _, fun _ _ _ _ h => h⟩
  | succ p ih =>
    intro hp
    obtain ⟨h1, h2, h3⟩ := ih (by omega)
    obtain ⟨o, ho⟩ : ∃ o, L[p]? = some o := ⟨L[p], List.getElem?_eq_getElem (by omega)⟩
    have hst := htr p o ho
    generalize hm : mk p = m at hst
    generalize hs1 : st (p + 1) = s1 at hst
    generalize hs2 : hs (p + 1) = h1' at hst
    generalize hs3 : val p = v at hst
    cases hst with
    | chain hc he _ =>
      have hx := evalOp_ext hcall h1 he
      exact ⟨hx.wf h1, Nat.le_trans h2 hx.n, fun q o' hq ho' hd => hx.dead _ (h3 q o' (by omega) ho' hd)⟩
    | make hc hmk hwn hlt ha =>
      refine ⟨wf_set h1 (by omega), h2, fun q o' hq ho' hd => ?_⟩
      show ((st p).H.set _ _).get _ = _
      rw [AH.get_set, if_neg]
      · exact h3 q o' (by omega) ho' hd
      · intro he
        have := hinj q p o' o ho' ho (by omega)
        omega
    | read => exact ⟨h1, h2, fun q o' hq ho' hd => h3 q o' (by omega) ho' hd⟩
    | skip => exact ⟨h1, h2, fun q o' hq ho' hd => h3 q o' (by omega) ho' hd⟩

theorem hsF_congr {L : List AOper} {base : Nat} {mk : Nat → Option AObj} {T T' : Nat → Bool} {cp : Nat} (h : ∀ (p : Nat) (o : AOper) (y : AObj), L[p]? = some o → mk p = some y → cp ≤ p → T p = T' p) : hsF L base mk T cp = hsF L base mk T' cp := by
  funext H p
  unfold hsF
  split
  · rename_i o y ho hy
    by_cases hc : cp ≤ p
    · simp [h p o y ho hy hc]
    · simp [hc]
  · rfl

/-- Between two operations of the chain the canonical heap only gains what is made. -/
theorem canon_between {call : Caller} {base : Nat} {L : List AOper} {st : Nat → ASt} {hs : Nat → List AH} {val : Nat → AV} {mk : Nat → Option AObj}
    (hinj : ∀ (p q : Nat) (o o' : AOper), L[p]? = some o → L[q]? = some o' → o.idx = o'.idx → p = q)
    (htr : ∀ (p : Nat) (o : AOper), L[p]? = some o → StepD call base o (st p) (hs p) (st (p + 1)) (hs (p + 1)) (val p) (mk p)) {cp : Nat} :
    ∀ d, cp + d ≤ L.length → (∀ (q : Nat) (o : AOper), cp ≤ q → q < cp + d → L[q]? = some o → o.op.chain = false) →
      ∀ x, (st (cp + d)).H.get x = (HS L base mk (fun q => q < cp + d) cp (st cp).H).get x := by
  intro d
  induction d with
  | zero =>
    intro _ _ x
    rw [HS_other]
    · rfl
    · intro p o y _ _ hT hc
      simp at hT
      omega
  | succ d ih =>
    intro hd hno x
    have ih := ih (by omega) (fun q o h1 h2 => hno q o h1 (by omega)) x
    obtain ⟨o, ho⟩ : ∃ o, L[cp + d]? = some o := ⟨L[cp + d], List.getElem?_eq_getElem (by omega)⟩
    have hst := htr _ o ho
    have hch := hno (cp + d) o (by omega) (by omega) ho
    have same : mk (cp + d) = none → (HS L base mk (fun q => q < cp + (d + 1)) cp (st cp).H).get x = (HS L base mk (fun q => q < cp + d) cp (st cp).H).get x := by
      intro hm
      unfold HS
      rw [hsF_congr (T' := fun q => decide (q < cp + d))]
      intro p o' y ho' hy hc
      have : p ≠ cp + d := by rintro rfl; rw [hm] at hy; cases hy
      simp
      omega
    show (st (cp + d + 1)).H.get x = _
    generalize hm : mk (cp + d) = m at hst same
    generalize hs1 : st (cp + d + 1) = s1 at hst
    generalize hs2 : hs (cp + d + 1) = h1' at hst
    generalize hs3 : val (cp + d) = v at hst
    cases hst with
    | chain hc => rw [hch] at hc; cases hc
    | make hc hmk hwn hlt ha =>
      rename_i y
      show ((st (cp + d)).H.set _ _).get x = _
      rw [AH.get_set]
      by_cases hx : x = base + o.idx
      · rw [if_pos hx, hx, HS_slot hinj ho hm (by simp) (by omega)]
      · rw [if_neg hx, ih]
        by_cases hex : ∃ (p : Nat) (o' : AOper) (y' : AObj), L[p]? = some o' ∧ mk p = some y' ∧ p < cp + d ∧ cp ≤ p ∧ x = base + o'.idx
        · obtain ⟨p, o', y', e1, e2, e3, e4, rfl⟩ := hex
          rw [HS_slot hinj e1 e2 (by simpa using e3) e4, HS_slot hinj e1 e2 (by simp; omega) e4]
        · rw [HS_other, HS_other]
          · intro p o' y' e1 e2 e3 e4 he
            by_cases hp : p = cp + d
            · subst hp
              rw [ho] at e1
              cases e1
              exact hx he
            · exact hex ⟨p, o', y', e1, e2, by simp at e3; omega, e4, he⟩
          · intro p o' y' e1 e2 e3 e4 he
            exact hex ⟨p, o', y', e1, e2, by simpa using e3, e4, he⟩
    | read => rw [same rfl]; exact ih
    | skip => rw [same rfl]; exact ih

end Go.Abs
