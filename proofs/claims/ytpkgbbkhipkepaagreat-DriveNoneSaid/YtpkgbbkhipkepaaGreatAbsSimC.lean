/-
  EACH OPERATION OF THE ABSTRACT MACHINE STANDS FOR THE MODEL's: part C.
-/
import Derived.Test.YtpkgbbkhipkepaaGreatAbsSimB
import Derived.Laws.StructEq
namespace Go.Abs
open Go.RowKit

variable {P : Program} {n0 : Fr P} {w0 : World} {G : Gh} {H H' : AH} {w : World} {σ : List AV} {ρ : Operand → Value} {v : AV}

theorem flatten_replicate_reps {z : List AV} {C : Array Value} (hz : Reps G z C.toList) (hs : 1 ≤ z.length) (len : Nat) :
    Reps G (List.replicate len z).flatten ((Array.range (len * z.length)).map (C[· % C.size]!)).toList := by
  have hl : z.length = C.size := by have := hz.1; simpa using this
  refine ⟨by simp, fun i h1 h2 => ?_⟩
  have e1 : ∀ (len i : Nat) (h : i < (List.replicate len z).flatten.length), (List.replicate len z).flatten[i] = z[i % z.length]'(Nat.mod_lt _ hs) := by
    intro len
    induction len with
    | zero => intro i h; simp at h
    | succ len ih =>
      intro i h
      simp only [List.replicate_succ, List.flatten_cons]
      by_cases hi : i < z.length
      · rw [List.getElem_append_left hi]
        simp [Nat.mod_eq_of_lt hi]
      · rw [List.getElem_append_right (by omega), ih]
        have : (i - z.length) % z.length = i % z.length := by
          conv => rhs; rw [show i = (i - z.length) + z.length by omega, Nat.add_mod_right]
        simp [this]
  rw [e1]
  have hm : i % z.length < C.size := by rw [← hl]; exact Nat.mod_lt _ hs
  have := hz.2 (i % z.length) (Nat.mod_lt _ hs) (by simpa using hm)
  simp only [Array.toList_map, Array.toList_range, List.getElem_map, List.getElem_range]
  rw [← hl, getElem!_pos C _ hm]
  simpa using this

theorem simv_bslice {ref : Bool} {t e : TypeId} {len sz : Nat} {z : List AV} {parts : Array (Nat × Operand)} (ht : isSl P t = some e) (hs : sizeN P e = some sz) (hz : zeroC P e = some z) (hzl : z.length = sz) (h1s : 1 ≤ sz) (hbig : len * sz ≤ 2 ^ 24)
    (hE : ∀ x ∈ parts.toList, Rep G (evalO σ x.2) (ρ x.2)) (hW : WRel n0 w0 G H w) (hF : Free n0 G H) (h : aop σ H (.bslice ref e sz len z parts.toList) = some (v, H')) :
    SimV P (Instr.buildSlice t len (parts.map fun (i, x) => (i, ρ x))) w n0 w0 G v H' := by
  have ht' : P.underlying t = some (.slice e) := by
    unfold isSl at ht
    split at ht
    · cases ht; assumption
    · cases ht
  obtain ⟨u, z1, z2⟩ := zeroC_run hz w
  simp only [aop, hzl, h1s, and_self, if_true] at h
  split at h
  · rename_i cs hf
    have hul : z.length = u.cells.size := by have := z2.1; simpa using this
    have hcells : ∃ zz : Array Value, ((len * sz = 0 → zz = #[]) ∧ (¬ len * sz = 0 → zz = u.cells)) ∧ Reps G (List.replicate len z).flatten ((Array.range (len * sz)).map (zz[· % zz.size]!)).toList := by
      by_cases h0 : len * sz = 0
      · refine ⟨#[], ⟨fun _ => rfl, fun h => absurd h0 h⟩, ?_⟩
        have : len = 0 := by
          rcases Nat.mul_eq_zero.1 h0 with h | h
          · exact h
          · omega
        subst this
        simp
        exact Reps.nil
      · refine ⟨u.cells, ⟨fun h => absurd h h0, fun _ => rfl⟩, ?_⟩
        have := flatten_replicate_reps z2 (by omega) len
        rwa [hzl] at this
    obtain ⟨zz, hzz, hr⟩ := hcells
    obtain ⟨C', c1, c2⟩ := sim_fill (G := G) (place := fun i => some (i * sz, sz)) _ (parts.toList.map fun q => (q.1, ρ q.2)) _ cs _ (by simp) (fun i hi hi' => by
      simp only [List.length_map] at hi hi'
      simp only [List.getElem_map, true_and]
      exact hE _ (List.getElem_mem _)) hr hf
    have hcl := c2.1
    simp at hcl
    have hrun : (Instr.buildSlice t len (parts.map fun (i, x) => (i, ρ x))).run P w = .ok (.slice (some ⟨w.heap.size, 0, none⟩) len len) (w.alloc (.cells C' e)) := by
      have hnb : ¬ len * sz > 2 ^ 24 := by omega
      simp only [Instr.buildSlice, Sem.run_bind, run_underlying' ht', Result.andThen_ok, run_sizeOf' hs, hnb, if_false]
      by_cases h0 : len * sz = 0
      · have := hzz.1 h0
        subst this
        simp only [h0, if_true, Sem.run_bind, Sem.run_pure, Result.andThen_ok, Array.toList_map] at c1 ⊢
        rw [c1]
        simp only [Sem.run_bind, newRow, run_newObj, Result.andThen_ok, Sem.run_pure]
        rfl
      · have := hzz.2 h0
        subst this
        simp only [h0, if_false, Sem.run_bind, z1, Sem.run_pure, Result.andThen_ok, Array.toList_map]
        rw [c1]
        simp only [Sem.run_bind, newRow, run_newObj, Result.andThen_ok, Sem.run_pure]
        rfl
    have hlen : cs.length = len * sz := by rw [afill_length _ _ _ hf]; simp [hzl]
    split at h
    · cases h
      obtain ⟨g1, g2⟩ := hW.push_cells hF (cs := cs) (C := C') (ty := e) (by omega) (fun i hi hi' => by have := c2.2 i hi (by simpa using hi'); simpa using this)
      refine ⟨_, _, _, hrun, g1, g2, ?_⟩
      have := Rep.rs (G := G.withLoc H.n 0 (w.heap.size, 0, C'.size)) (o := H.n) (g := 0) (sz := sz) (off := 0) (len := len) (b := w.heap.size) (s := 0) (e := C'.size) (cap := len) (by simp [Gh.withLoc]) (Nat.le_refl _) (by simp; omega)
      simpa using this
    · split at h
      · rename_i hone
        cases h
        obtain ⟨g1, g2⟩ := hW.new_row C' e
        refine ⟨_, _, _, hrun, g1, g2, ?_⟩
        obtain ⟨f1, f2⟩ := chunk_flat sz len cs hlen (.inl hone)
        have := Rep.sl (G := (G.withMem w.heap.size C'.size C').withLt w.heap.size) (t := .lit) (sz := sz) (xs := chunk sz len cs) (us := C'.toList) (b := w.heap.size) (k := 0) (cap := len) (by rw [f1]; simpa using hcl) f2
          (fun i hi hi' => by simp only [f1]; exact (c2.2 i (by rw [f1] at hi; exact hi) hi').mono g1) (fun i hi => by
          have hi2 : i < C'.size := by simpa using hi
          simp [Gh.withMem, Gh.withLt, hi2]) (by rw [chunk_length]; exact Nat.le_refl _) ⟨by rw [chunk_length], .inl rfl⟩
        rw [chunk_length] at this
        exact this
      · cases h
  · cases h

theorem simv_nilCheck {x : Operand} (hE : Rep G (evalO σ x) (ρ x)) (hW : WRel n0 w0 G H w) (o : Oper) (ho : o.op = .nilCheck x) (h : aop σ H (.nilCheck x) = some (v, H')) : Sim ((execOp ρ o).run P w) n0 w0 G v H' := by
  simp only [execOp, ho]
  simp only [aop] at h
  generalize evalO σ x = y at *
  generalize ρ x = u at *
  split at h
  · cases h
  · cases h
  · cases h
  · rename_i n1 n2 n3
    cases h
    have fin : (match u with
      | .pointer none | .nilIface | .nilFunc => (runtimePanic .nilDeref : Sem Next)
      | .func (.method name) first captured =>
        match (first[0]? : Option Value) with
        | some .nilIface => runtimePanic .nilDeref
        | some (.iface t w) => do
          if (← nilAhead ((← program).types.size + Made.depth) t w name) != some false then
            unsupported (.noEntry "op/nilCheck.the method's receiver behind this interface value is a nil pointer, or cannot be seen to be none, and the arguments act or may panic (ledger 612)")
          pure (.value (.func (.method name) first captured))
        | _ => pure (.value (.func (.method name) first captured))
      | x => pure (.value x)).run P w = .ok (.value u) w := by
      cases hE with
      | lit hc => cases u <;> first | rfl | (simp_all [closedV]; done)
      | _ => rfl
    exact Sim.val fin hW hE

/-! ### Comparisons -/
theorem run_eqGuard_iface {op : BinOp} {t : TypeId} {x y : Operand} {a b : Value} (h : isC x = true ∨ isC y = true) (hagg : ∀ cs ds, ¬ (a = .agg cs ∧ b = .agg ds)) : (eqGuard op t x y a b).run P w = .ok () w := by
  unfold eqGuard
  cases op <;> first | rfl | skip
  all_goals
    simp only [Bool.not_true, Bool.false_eq_true, if_false]
    split
    · cases x <;> cases y <;> first | rfl | (exfalso; rcases h with h | h <;> cases h)
    · exact absurd ⟨rfl, rfl⟩ (hagg _ _)
    · rfl

theorem run_eqGuard_other {op : BinOp} {t : TypeId} {x y : Operand} {a b : Value} (h1 : ¬ (a = .nilIface ∧ b = .nilIface)) (hagg : ∀ cs ds, ¬ (a = .agg cs ∧ b = .agg ds)) : (eqGuard op t x y a b).run P w = .ok () w := by
  unfold eqGuard
  cases op <;> first | rfl | skip
  all_goals
    simp only [Bool.not_true, Bool.false_eq_true, if_false]
    split
    · exact absurd ⟨rfl, rfl⟩ h1
    · exact absurd ⟨rfl, rfl⟩ (hagg _ _)
    · rfl

theorem litBin_int {op : BinOp} {t : TypeId} {k k' : IntKind} {a b : Int} {r : Value} (h : litBin op (.int k a) (.int k' b) = some r) : (binOp op t (.int k a) (.int k' b)).run P w = .ok r w ∧ closedV r = true := by
  cases op <;> simp only [litBin] at h <;> simp only [binOp] <;> (repeat' (split at h)) <;> first
    | (cases h; done)
    | (cases h; refine ⟨?_, rfl⟩; simp_all [Op.intArith, Op.intDiv, Op.intBits, Op.intCmp, Op.shift]; done)
    | (cases h; refine ⟨?_, rfl⟩; simp only [Op.shift]; rw [if_neg (by omega)]; rfl)

theorem litBin_str {op : BinOp} {t : TypeId} {x y : ByteArray} {r : Value} (h : litBin op (.string x) (.string y) = some r) : (binOp op t (.string x) (.string y)).run P w = .ok r w ∧ closedV r = true := by
  cases op <;> simp only [litBin, strLess] at h <;> simp only [binOp, Op.stringOp] <;> (repeat' (split at h)) <;> first
    | (cases h; done)
    | (cases h; refine ⟨?_, rfl⟩; rfl)
    | (cases h; refine ⟨?_, rfl⟩; rw [if_neg (by assumption)]; rfl)

/-- The kind of a comparison, and the type. -/
def EKOk (P : Program) (t : TypeId) : EK → Prop
  | .prim => True
  | .bool => P.underlying t = some .bool
  | .slice => ∃ e, P.underlying t = some (.slice e)
  | .map => ∃ k e, P.underlying t = some (.map k e)
  | .ptr => ∃ e n, P.underlying t = some (.pointer e) ∧ sizeN P e = some n ∧ n ≠ 0
  | .iface => ∃ ms, P.underlying t = some (.interface ms)
  | .fnk => ∃ a b c, P.underlying t = some (.func a b c)
  | .flat n => ∃ fs, P.underlying t = some (.struct fs) ∧ fs.size = n ∧ fieldsFlat P fs = true ∧ P.stoodInHeld t = false ∧ P.eqGuardType P.depth t = false

theorem eqKind_ok {t : TypeId} {e : EK} (h : eqKind P t = some e) : EKOk P t e := by
  unfold eqKind at h
  split at h <;> first
    | (cases h; done)
    | (cases h; first | trivial | assumption | exact ⟨_, by assumption⟩ | exact ⟨_, _, by assumption⟩ | exact ⟨_, _, _, by assumption⟩)
    | skip
  · split at h
    · split at h
      · cases h; exact ⟨_, _, by assumption, by assumption, by assumption⟩
      · cases h
    · cases h
  · rename_i fs hu
    split at h
    · rename_i hc
      cases h
      simp only [Bool.and_eq_true, Bool.not_eq_true'] at hc
      exact ⟨fs, hu, rfl, hc.1.1, hc.1.2, hc.2⟩
    · cases h

theorem nil_slice {x : AV} {vx : Value} {c : Bool} (h : nilness .slice x = some c) (hx : Rep G x vx) : ∃ a n m, vx = .slice a n m ∧ a.isNone = c := by
  simp only [nilness] at h
  split at h <;> first | (cases h; done) | skip
  all_goals (cases h; cases hx <;> (refine ⟨_, _, _, rfl, ?_⟩; rfl))
theorem nil_map {x : AV} {vx : Value} {c : Bool} (h : nilness .map x = some c) (hx : Rep G x vx) : ∃ a, vx = .map a ∧ a.isNone = c := by
  simp only [nilness] at h
  split at h <;> first | (cases h; done) | skip
  all_goals (cases h; cases hx <;> (refine ⟨_, rfl, ?_⟩; rfl))
theorem nil_ptr {x : AV} {vx : Value} {c : Bool} (h : nilness .ptr x = some c) (hx : Rep G x vx) : ∃ a, vx = .pointer a ∧ a.isNone = c := by
  simp only [nilness] at h
  split at h <;> first | (cases h; done) | skip
  all_goals (cases h; cases hx <;> (refine ⟨_, rfl, ?_⟩; rfl))
theorem nil_iface {x : AV} {vx : Value} {c : Bool} (h : nilness .iface x = some c) (hx : Rep G x vx) : (c = true ∧ vx = .nilIface) ∨ (c = false ∧ ∃ t v, vx = .iface t v) := by
  simp only [nilness] at h
  split at h <;> first | (cases h; done) | skip
  all_goals (cases h; cases hx <;> first | exact .inl ⟨rfl, rfl⟩ | exact .inr ⟨rfl, _, _, rfl⟩)
theorem nil_fnk {x : AV} {vx : Value} {c : Bool} (h : nilness .fnk x = some c) (hx : Rep G x vx) : (c = true ∧ vx = .nilFunc) ∨ (c = false ∧ ∃ f a b, vx = .func f a b) := by
  simp only [nilness] at h
  split at h <;> first | (cases h; done) | skip
  all_goals (cases h; cases hx <;> first | exact .inl ⟨rfl, rfl⟩ | exact .inr ⟨rfl, _, _, _, rfl⟩)

theorem nilEq_key {e : EK} {x y : AV} {b : Bool} (h : sameEq.nilEq e x y = some b) : ∃ c d, nilness e x = some c ∧ nilness e y = some d ∧ ((c = true ∧ b = d) ∨ (d = true ∧ b = c)) := by
  unfold sameEq.nilEq at h
  split at h
  · cases h; exact ⟨_, _, by assumption, by assumption, .inl ⟨rfl, rfl⟩⟩
  · cases h; exact ⟨_, _, by assumption, by assumption, .inr ⟨rfl, rfl⟩⟩
  · cases h

theorem nilEq_spec {t : TypeId} {e : EK} (he : EKOk P t e) {x y : AV} {vx vy : Value} (hx : Rep G x vx) (hy : Rep G y vy) {b : Bool} (h : sameEq.nilEq e x y = some b) : (Op.equal t vx vy).run P w = .ok b w := by
  obtain ⟨c, d, h1, h2, h3⟩ := nilEq_key h
  unfold Op.equal Op.maxDepth Op.equalIn
  cases e <;> simp only [EKOk] at he
  · cases h1
  · cases h1
  · obtain ⟨el, hu⟩ := he
    simp only [Sem.run_bind, run_underlying' hu, Result.andThen_ok]
    obtain ⟨a, n, m, rfl, e1⟩ := nil_slice h1 hx
    obtain ⟨a', n', m', rfl, e2⟩ := nil_slice h2 hy
    cases a <;> cases a' <;> simp at e1 e2 <;> subst e1 <;> subst e2 <;> simp at h3 <;> subst h3 <;> rfl
  · obtain ⟨kl, el, hu⟩ := he
    simp only [Sem.run_bind, run_underlying' hu, Result.andThen_ok]
    obtain ⟨a, rfl, e1⟩ := nil_map h1 hx
    obtain ⟨a', rfl, e2⟩ := nil_map h2 hy
    cases a <;> cases a' <;> simp at e1 e2 <;> subst e1 <;> subst e2 <;> simp at h3 <;> subst h3 <;> rfl
  · obtain ⟨el, n, hu, _⟩ := he
    simp only [Sem.run_bind, run_underlying' hu, Result.andThen_ok]
    obtain ⟨a, rfl, e1⟩ := nil_ptr h1 hx
    obtain ⟨a', rfl, e2⟩ := nil_ptr h2 hy
    cases a <;> cases a' <;> simp at e1 e2 <;> subst e1 <;> subst e2 <;> simp at h3 <;> subst h3 <;> rfl
  · obtain ⟨ms, hu⟩ := he
    simp only [Sem.run_bind, run_underlying' hu, Result.andThen_ok]
    rcases nil_iface h1 hx with ⟨rfl, rfl⟩ | ⟨rfl, t1, v1, rfl⟩ <;> rcases nil_iface h2 hy with ⟨rfl, rfl⟩ | ⟨rfl, t2, v2, rfl⟩ <;> simp at h3 <;> subst h3 <;> rfl
  · obtain ⟨a1, b1, c1, hu⟩ := he
    simp only [Sem.run_bind, run_underlying' hu, Result.andThen_ok]
    rcases nil_fnk h1 hx with ⟨rfl, rfl⟩ | ⟨rfl, t1, v1, u1, rfl⟩ <;> rcases nil_fnk h2 hy with ⟨rfl, rfl⟩ | ⟨rfl, t2, v2, u2, rfl⟩ <;> simp at h3 <;> subst h3 <;> rfl
  · cases h1

/-- Numbers one by one: the same shape, the same numbers. -/
theorem run_eqFields_flat (d : Nat) {as bs : List AV} {us vs : List Value} (ha : Reps G as us) (hb : Reps G bs vs) (fs : List Field) : ∀ (k : Nat) (l : List Field), fs.drop k = l → fs.length = as.length → as.length = bs.length →
    (∀ (i : Nat) (f : Field), fs[i]? = some f → f.name ≠ "_" ∧ f.offset = i ∧ ∃ j, P.underlying f.type = some (.int j)) →
    (∀ (i : Nat) (a b : AV), as[i]? = some a → bs[i]? = some b → ∃ (j : IntKind) (x y : Int), a = .int j x ∧ b = .int j y) →
    (Op.eqFields (d + 1) us.toArray vs.toArray l).run P w = .ok (((as.zip bs).drop k).all fun
      | (.lit (.int k a), .lit (.int j b)) => k == j && a == b
      | _ => false) w := by
  intro k l hl hfa hab hf hs
  induction l generalizing k with
  | nil =>
    have : (as.zip bs).drop k = [] := by
      rw [List.drop_eq_nil_iff] at *
      simp; omega
    simp [Op.eqFields, this]
  | cons f l ih =>
    have hk : k < fs.length := by
      rcases Nat.lt_or_ge k fs.length with h | h
      · exact h
      · rw [List.drop_eq_nil_iff.2 h] at hl; cases hl
    rw [List.drop_eq_getElem_cons hk] at hl
    injection hl with hf0 hl'
    obtain ⟨h1, h2, j, h3⟩ := hf k f (by rw [List.getElem?_eq_getElem hk, hf0])
    have hka : k < as.length := by omega
    have hkb : k < bs.length := by omega
    obtain ⟨j', x, y, e1, e2⟩ := hs k _ _ (List.getElem?_eq_getElem hka) (List.getElem?_eq_getElem hkb)
    have r1 := ha.2 k hka (by rw [← ha.1]; exact hka)
    have r2 := hb.2 k hkb (by rw [← hb.1]; exact hkb)
    rw [e1] at r1
    rw [e2] at r2
    have r1 := r1.int
    have r2 := r2.int
    have p1 : (part f.type us.toArray f.offset).run P w = .ok (.int j' x) w := by
      have : us[k]? = some (.int j' x) := by rw [List.getElem?_eq_getElem (by rw [← ha.1]; exact hka), r1]
      simp [part, isAgg, run_underlying' h3, h2, this]
    have p2 : (part f.type vs.toArray f.offset).run P w = .ok (.int j' y) w := by
      have : vs[k]? = some (.int j' y) := by rw [List.getElem?_eq_getElem (by rw [← hb.1]; exact hkb), r2]
      simp [part, isAgg, run_underlying' h3, h2, this]
    have hz : (as.zip bs).drop k = (as[k], bs[k]) :: (as.zip bs).drop (k + 1) := by
      rw [List.drop_eq_getElem_cons (by simp; omega)]
      simp
    rw [hz, e1, e2]
    simp only [Op.eqFields, h1, ne_eq, not_false_eq_true, if_true, Sem.run_bind, p1, p2, Result.andThen_ok, run_equalIn_int w d f.type j' j x y h3, List.all_cons]
    by_cases hxy : x = y
    · subst hxy
      simp only [beq_self_eq_true, Bool.not_true, Bool.false_eq_true, if_false, Bool.and_self, Bool.true_and]
      exact ih (k + 1) hl'
    · have : (x == y) = false := by simpa using hxy
      simp [this]

end Go.Abs
