/-
  EACH OPERATION OF THE ABSTRACT MACHINE STANDS FOR THE MODEL's: part J: maps.
-/
import Derived.Test.YtpkgbbkhipkepaaGreatAbsSimI
import Derived.MapKept
import Derived.ChangeKeysEq
namespace Go.Abs
open Go.RowKit

variable {P : Program} {n0 : Fr P} {w0 : World} {G : Gh} {H H' : AH} {w : World} {σ : List AV} {ρ : Operand → Value} {v : AV}

theorem intTy_spec {t : TypeId} (h : intTy P t = true) : ∃ j, P.underlying t = some (.int j) := by
  unfold intTy at h
  split at h
  · exact ⟨_, by assumption⟩
  · cases h

theorem isInt_spec {x : AV} (h : isInt x = true) : ∃ k n, x = .int k n := by
  unfold isInt at h
  split at h
  · exact ⟨_, _, rfl⟩
  · cases h

theorem part_int {t : TypeId} {j : IntKind} (ht : P.underlying t = some (.int j)) {us : List Value} {i : Nat} {u : Value} (hu : us[i]? = some u) : (part t us.toArray i).run P w = .ok u w := by
  simp [part, isAgg, run_underlying' ht, hu]

theorem checkKey_int {t : TypeId} {j : IntKind} (ht : P.underlying t = some (.int j)) (e : Bool) (d : Nat) (u : Value) (_hu : ∀ a b, u ≠ .iface a b) : (Instr.checkKey e (d + 1) t u).run P w = .ok () w := by
  unfold Instr.checkKey
  simp only [Sem.run_bind, run_underlying' ht, Result.andThen_ok]
  rfl

theorem checkKey_ok {kt : TypeId} {kk : Nat} (hk : keyTy P kt = some kk) {k : AV} (hi : isKey kk k = true) {vk : Value} (hr : Rep G k vk) (e : Bool) (d : Nat) : (Instr.checkKey e (d + 2) kt vk).run P w = .ok () w := by
  unfold keyTy at hk
  split at hk
  · rename_i j ht
    unfold Instr.checkKey
    simp only [Sem.run_bind, run_underlying' ht, Result.andThen_ok]
    rfl
  · rename_i ht
    unfold Instr.checkKey
    simp only [Sem.run_bind, run_underlying' ht, Result.andThen_ok]
    rfl
  · rename_i fs ht
    split at hk
    · rename_i hc
      cases hk
      simp only [Bool.and_eq_true, Bool.not_eq_true'] at hc
      unfold isKey at hi
      split at hi
      · simp at hi
      · simp at hi
      · rename_i as
        simp only [Bool.and_eq_true, beq_iff_eq] at hi
        obtain ⟨us, rfl, hus⟩ := hr.agg'
        unfold Instr.checkKey
        simp only [Sem.run_bind, run_underlying' ht, Result.andThen_ok]
        have spec := fieldsFlat_spec hc.1
        have hl : as.length = fs.size := by omega
        have go : ∀ (l : List Field) (k : Nat), fs.toList.drop k = l → (do for f in l do if f.name ≠ "_" then Instr.checkKey e (d + 1) f.type (← part f.type us.toArray f.offset) : Sem Unit).run P w = .ok () w := by
          intro l
          induction l with
          | nil => intro k _; rfl
          | cons f l ih =>
            intro k hl'
            have hfk : fs.toList[k]? = some f := by
              have := congrArg List.head? hl'
              simpa [List.head?_drop] using this
            obtain ⟨h1, h2, j, h3⟩ := spec k f hfk
            have hlt : k < us.length := by
              have := (List.getElem?_eq_some_iff.1 hfk).1
              simp at this
              have := hus.1
              omega
            have hu : us[f.offset]? = some (us[k]'hlt) := by rw [h2, List.getElem?_eq_getElem]
            have hint : isInt (as[k]'(by rw [hus.1]; exact hlt)) = true := List.all_eq_true.1 hi.2 _ (List.getElem_mem _)
            obtain ⟨k1, n1, e1⟩ := isInt_spec hint
            have hrep := hus.2 k (by rw [hus.1]; exact hlt) hlt
            rw [e1] at hrep
            have hval := hrep.int
            simp only [List.forIn_cons, Sem.run_bind, h1, ne_eq, not_false_eq_true, if_true, part_int h3 hu, Result.andThen_ok]
            rw [checkKey_int h3 e d _ (by rw [hval]; intro a b; simp)]
            simp only [Result.andThen_ok, Sem.run_pure]
            have := ih (k + 1) (by
              rw [← List.drop_drop, hl']; rfl)
            simp at this ⊢
            rw [this]
            rfl
        have := go fs.toList 0 rfl
        simp at this ⊢
        rw [this]
        rfl
      · cases hi
    · cases hk
  · rename_i n el ht
    split at hk
    · rename_i hc
      cases hk
      simp only [Bool.and_eq_true, beq_iff_eq] at hc
      unfold isKey at hi
      split at hi
      · simp at hi
      · simp at hi
      · rename_i as
        simp only [Bool.and_eq_true, beq_iff_eq] at hi
        obtain ⟨us, rfl, hus⟩ := hr.agg'
        obtain ⟨j, hj⟩ := intTy_spec hc.1
        unfold Instr.checkKey
        simp only [Sem.run_bind, run_underlying' ht, Result.andThen_ok]
        simp only [Std.Legacy.Range.forIn_eq_forIn_range', Std.Legacy.Range.size, Nat.sub_zero, Nat.add_one_sub_one, Nat.div_one]
        have go : ∀ (m k : Nat), k + m = n → (forIn (List.range' k m 1) PUnit.unit (fun i r => do
            Instr.checkKey e (d + 1) el (← part el us.toArray (i * (← sizeOf el)))
            pure PUnit.unit
            pure (ForInStep.yield PUnit.unit)) : Sem PUnit).run P w = .ok () w := by
          intro m
          induction m with
          | zero => intro k _; rfl
          | succ m ih =>
            intro k hk
            have hlt : k < us.length := by have := hus.1; omega
            have hint : isInt (as[k]'(by rw [hus.1]; exact hlt)) = true := List.all_eq_true.1 hi.2 _ (List.getElem_mem _)
            obtain ⟨k1, n1, e1⟩ := isInt_spec hint
            have hrep := hus.2 k (by rw [hus.1]; exact hlt) hlt
            rw [e1] at hrep
            have hval := hrep.int
            simp only [List.range'_succ, List.forIn_cons, Sem.run_bind, run_sizeOf' hc.2, Nat.mul_one, part_int hj (List.getElem?_eq_getElem hlt), Result.andThen_ok]
            rw [checkKey_int hj e d _ (by rw [hval]; intro a b; simp)]
            simp only [Result.andThen_ok, Sem.run_pure]
            exact ih (k + 1) (by omega)
        have := go n 0 (by omega)
        simp at this ⊢
        rw [this]
        rfl
      · cases hi
    · cases hk
  · cases hk

/-- Two keys of one shape. -/
theorem key_equal {kt : TypeId} {kk : Nat} (hk : keyTy P kt = some kk) {k k' : AV} (hi : isKey kk k = true) (hs : shp k k' = true) {vk vk' : Value} (hr : Rep G k vk) (hr' : Rep G k' vk') : (Op.equal kt vk vk').run P w = .ok (keyEq k k') w := by
  unfold shp at hs
  split at hs
  · rename_i k1 a k2 b
    have e : k1 = k2 := by simpa using hs
    subst e
    rw [hr.int, hr'.int]
    unfold keyTy at hk
    split at hk
    · rename_i j ht
      unfold Op.equal Op.maxDepth Op.equalIn
      simp only [Sem.run_bind, run_underlying' ht, Result.andThen_ok, if_true, Sem.run_pure, keyEq, beq_self_eq_true, Bool.true_and]
    · cases hk; simp [isKey] at hi
    · split at hk <;> first | (cases hk; simp [isKey] at hi) | cases hk
    · split at hk <;> first | (cases hk; simp [isKey] at hi) | cases hk
    · cases hk
  · rename_i a b
    rw [(hr.lit').1, (hr'.lit').1]
    unfold keyTy at hk
    split at hk
    · cases hk; simp [isKey] at hi
    · rename_i ht
      unfold Op.equal Op.maxDepth Op.equalIn
      simp only [Sem.run_bind, run_underlying' ht, Result.andThen_ok, Sem.run_pure, keyEq]
    · split at hk <;> first | (cases hk; simp [isKey] at hi) | cases hk
    · split at hk <;> first | (cases hk; simp [isKey] at hi) | cases hk
    · cases hk
  · rename_i as bs
    have hs' : shp (.agg as) (.agg bs) = true := hs
    unfold isKey at hi
    simp only [Bool.and_eq_true, beq_iff_eq] at hi
    obtain ⟨us, rfl, hus⟩ := hr.agg'
    obtain ⟨vs, rfl, hvs⟩ := hr'.agg'
    unfold keyTy at hk
    split at hk
    · cases hk; omega
    · cases hk; omega
    · rename_i fs ht
      split at hk
      · rename_i hc
        cases hk
        simp only [Bool.and_eq_true, Bool.not_eq_true'] at hc
        exact equal_flat ht hc.1 hc.2 hus hvs (by omega) hs' 9998
      · cases hk
    · rename_i n el ht
      split at hk
      · rename_i hc
        cases hk
        simp only [Bool.and_eq_true, beq_iff_eq] at hc
        obtain ⟨j, hj⟩ := intTy_spec hc.1
        obtain ⟨hl, hint⟩ := shp_agg hs'
        have hinfo : ∃ i, P.info? el = some i ∧ i.size = 1 := by
          have := hc.2
          unfold sizeN at this
          cases hi' : P.info? el with
          | none => simp [hi'] at this
          | some i => exact ⟨i, rfl, by simpa [hi'] using this⟩
        obtain ⟨inf, hi1, hi2⟩ := hinfo
        have hcell : P.cellsOf el = 1 := by
          have h1 := run_sizeOf w hi1
          rw [run_sizeOf' hc.2] at h1
          injection h1 with h1 _
          exact h1.symm
        unfold Op.equal Op.maxDepth
        rw [run_equalIn_array w 9999 _ _ ht hi1, hcell]
        have go : ∀ (m q : Nat), q + m = n → (Op.eqItems 9999 el 1 us.toArray vs.toArray (List.range' q m)).run P w = .ok (((as.zip bs).drop q).all fun
            | (.lit (.int k a), .lit (.int j b)) => k == j && a == b
            | _ => false) w := by
          intro m
          induction m with
          | zero =>
            intro q hq
            have : (as.zip bs).drop q = [] := by rw [List.drop_eq_nil_iff]; simp; omega
            simp [Op.eqItems, this]
          | succ m ih =>
            intro q hq
            have h1 : q < as.length := by omega
            have h2 : q < bs.length := by omega
            have h3 : q < us.length := by have := hus.1; omega
            have h4 : q < vs.length := by have := hvs.1; omega
            obtain ⟨j1, x, y, ex, ey⟩ := hint q _ _ (List.getElem?_eq_getElem h1) (List.getElem?_eq_getElem h2)
            have r1 := hus.2 q h1 h3
            have r2 := hvs.2 q h2 h4
            rw [ex] at r1
            rw [ey] at r2
            have hz : (as.zip bs).drop q = (as[q], bs[q]) :: (as.zip bs).drop (q + 1) := by
              rw [List.drop_eq_getElem_cons (by simp; omega)]
              simp
            rw [hz, List.range'_succ]
            simp only [Op.eqItems, Nat.mul_one, Sem.run_bind, part_int hj (List.getElem?_eq_getElem h3), part_int hj (List.getElem?_eq_getElem h4), Result.andThen_ok, List.all_cons, ex, ey]
            have he : (Op.equalIn 9999 el us[q] vs[q]).run P w = .ok (x == y) w := by
              rw [r1.int, r2.int]
              unfold Op.equalIn
              simp only [Sem.run_bind, run_underlying' hj, Result.andThen_ok, if_true, Sem.run_pure]
            rw [he]
            simp only [Result.andThen_ok, beq_self_eq_true, Bool.true_and]
            cases hxy : (x == y) with
            | false => simp
            | true =>
              simp only [Bool.not_true, Bool.false_eq_true, if_false, Bool.true_and]
              exact ih (q + 1) (by omega)
        have := go n 0 (by omega)
        rw [List.range_eq_range', this]
        simp only [keyEq, hl, beq_self_eq_true, Bool.true_and, List.drop_zero]
        rfl
      · cases hk
    · cases hk
  · cases hs

/-- Entries. -/
def Ents (G : Gh) (es : List (AV × AV × Nat)) (E : List MapEntry) : Prop := es.length = E.length ∧ ∀ (i : Nat) (h : i < es.length) (h' : i < E.length), Rep G es[i].1 E[i].key ∧ Rep G es[i].2.1 E[i].val ∧ es[i].2.2 = E[i].born

theorem Ents.tail {e : AV × AV × Nat} {f : MapEntry} {es : List (AV × AV × Nat)} {E : List MapEntry} (h : Ents G (e :: es) (f :: E)) : Ents G es E :=
  ⟨by have := h.1; simpa using this, fun i h1 h2 => h.2 (i + 1) (by simpa using h1) (by simpa using h2)⟩

def Found (G : Gh) (k : AV) (es : List (AV × AV × Nat)) (i : Nat) (r : Option (Nat × AV)) (r' : Option (Nat × Value)) : Prop :=
  match r, r' with
  | none, none => True
  | some (j, x), some (j', u) => j = j' ∧ i ≤ j ∧ Rep G x u ∧ (∃ e, es[j - i]? = some e ∧ keyEq k e.1 = true ∧ shp k e.1 = true)
  | _, _ => False

theorem ask_ok {kt : TypeId} {kk : Nat} (hk : keyTy P kt = some kk) {k : AV} (hi : isKey kk k = true) {vk : Value} (hr : Rep G k vk) : ∀ (es : List (AV × AV × Nat)) (E : List MapEntry) (i : Nat) (r : Option (Nat × AV)), Ents G es E → findKey k es i = some r →
    ∃ r', (Instr.findAsking kt vk E i).run P w = .ok r' w ∧ Found G k es i r r' := by
  intro es
  induction es with
  | nil =>
    intro E i r hE h
    cases E with
    | nil => cases h; exact ⟨none, rfl, trivial⟩
    | cons _ _ => have := hE.1; simp at this
  | cons e es ih =>
    intro E i r hE h
    cases E with
    | nil => have := hE.1; simp at this
    | cons f E =>
      obtain ⟨k', v', b'⟩ := e
      obtain ⟨h1, h2, h3⟩ := hE.2 0 (by simp) (by simp)
      simp only [List.getElem_cons_zero] at h1 h2 h3
      simp only [findKey] at h
      split at h
      · rename_i hsh
        have heq := key_equal (w := w) hk hi hsh hr h1
        simp only [Instr.findAsking, Sem.run_bind, heq, Result.andThen_ok]
        split at h
        · rename_i he
          cases h
          rw [he]
          exact ⟨some (i, f.val), rfl, rfl, Nat.le_refl _, h2, ⟨(k', v', b'), by simp, he, hsh⟩⟩
        · rename_i he
          have he' : keyEq k k' = false := by simpa using he
          rw [he']
          obtain ⟨r', a1, a2⟩ := ih E (i + 1) r hE.tail h
          refine ⟨r', a1, ?_⟩
          cases r with
          | none => cases r' <;> first | trivial | exact a2
          | some q =>
            cases r' with
            | none => exact a2
            | some q' =>
              obtain ⟨c1, c2, c3, e, c4, c5⟩ := a2
              refine ⟨c1, by omega, c3, e, ?_, c5⟩
              have : q.1 - i = (q.1 - (i + 1)) + 1 := by omega
              rw [this]
              simpa using c4
      · cases h

/-- For numbers and texts the quick search answers alike. -/
theorem now_ask {kt : TypeId} {d : TypeDesc} (hd : P.underlying kt = some d) (vk : Value) : ∀ (E : List MapEntry) (i : Nat) (r : Option (Nat × Value)), Instr.findNow d vk E i = some r → (Instr.findAsking kt vk E i).run P w = .ok r w := by
  intro E
  induction E with
  | nil => intro i r h; cases h; rfl
  | cons f E ih =>
    intro i r h
    simp only [Instr.findNow] at h
    have hq : ∀ b, Instr.sameNow d vk f.key = some b → (Op.equal kt vk f.key).run P w = .ok b w := by
      intro b hb
      generalize f.key = fk at hb ⊢
      unfold Instr.sameNow at hb
      unfold Op.equal Op.maxDepth Op.equalIn
      simp only [Sem.run_bind, run_underlying' hd, Result.andThen_ok]
      split at hb
      · split at hb
        · rename_i hkk
          cases hb
          subst hkk
          simp
        · cases hb
      · cases hb; simp
      · cases hb; simp
      · cases hb
    split at h
    · rename_i hs
      cases h
      simp only [Instr.findAsking, Sem.run_bind, hq _ hs, Result.andThen_ok]
      rfl
    · rename_i hs
      simp only [Instr.findAsking, Sem.run_bind, hq _ hs, Result.andThen_ok]
      exact ih _ _ h
    · cases h

theorem findKey_ok {kt : TypeId} {kk : Nat} (hk : keyTy P kt = some kk) {k : AV} (hi : isKey kk k = true) {vk : Value} (hr : Rep G k vk) {es : List (AV × AV × Nat)} {E : List MapEntry} {r : Option (Nat × AV)} (hE : Ents G es E) (h : findKey k es 0 = some r) :
    ∃ r', (Instr.findKey kt vk E).run P w = .ok r' w ∧ Found G k es 0 r r' := by
  obtain ⟨r', a1, a2⟩ := ask_ok (w := w) hk hi hr es E 0 r hE h
  refine ⟨r', ?_, a2⟩
  have hd : ∃ d, P.underlying kt = some d := by
    unfold keyTy at hk
    split at hk <;> first | exact ⟨_, by assumption⟩ | cases hk
  obtain ⟨d, hd⟩ := hd
  simp only [Instr.findKey, Sem.run_bind, run_underlying' hd, Result.andThen_ok]
  cases hn : Instr.findNow d vk E 0 with
  | none => exact a1
  | some q =>
    have := now_ask (w := w) hd vk E 0 q hn
    rw [a1] at this
    injection this with this _
    subst this
    rfl

theorem ents_of {es : List (AV × AV × Nat)} {E : Array MapEntry} (hl : es.length = E.size) (h : ∀ i (h : i < es.length) (h' : i < E.size), Rep G es[i].1 E[i].key ∧ Rep G es[i].2.1 E[i].val ∧ es[i].2.2 = E[i].born) : Ents G es E.toList :=
  ⟨by simpa using hl, fun i h1 h2 => by have := h i h1 (by simpa using h2); simpa using this⟩

theorem simv_lookup {mt kt et : TypeId} {kk : Nat} {z : AV} {ok : Bool} {x i : Operand} (hm : P.underlying mt = some (.map kt et)) (hk : keyTy P kt = some kk) (hz : zeroV P et = some z) (hx : Rep G (evalO σ x) (ρ x)) (hi : Rep G (evalO σ i) (ρ i)) (hW : WRel n0 w0 G H w)
    (h : aop σ H (.lookup kk z ok x i) = some (v, H')) : SimV P (Instr.lookup mt (ρ x) (ρ i) ok) w n0 w0 G v H' := by
  obtain ⟨vz, hvz, hrz⟩ := zeroV_run (G := G) hz w
  simp only [aop] at h
  split at h
  · rename_i hkey
    have tup : ∀ (a : AV) (b : Bool) (u : Value), Rep G a u → Rep G (if ok then .tup [a, .bool b] else a) (if ok then .tuple #[u, .bool b] else u) := by
      intro a b u hu
      cases ok with
      | false => exact hu
      | true =>
        have := Rep.tup (G := G) (cs := [a, .bool b]) (us := [u, .bool b]) rfl (Reps.cons hu (Reps.cons (.lit rfl) .nil)).2
        simpa using this
    split at h
    · rename_i e
      rw [e] at hx
      simp only [Option.some.injEq, Prod.mk.injEq] at h
      obtain ⟨rfl, rfl⟩ := h
      refine .same hW ?_ (tup _ false _ hrz)
      rw [(hx.lit').1]
      simp only [Instr.lookup, Sem.run_bind, run_underlying' hm, Result.andThen_ok, Sem.run_pure]
      rw [checkKey_ok hk hkey hi]
      obtain ⟨r', a1, a2⟩ := findKey_ok (w := w) (es := []) (E := []) (r := none) hk hkey hi ⟨rfl, fun i h => absurd h (Nat.not_lt_zero _)⟩ rfl
      cases r' with
      | some _ => exact a2.elim
      | none =>
        simp only [Result.andThen_ok, a1, Sem.run_bind, hvz, Sem.run_pure]
    · rename_i o e
      rw [e] at hx
      split at h
      · rename_i es clock hg
        obtain ⟨r, hr, hxv⟩ := hx.mp'
        obtain ⟨r', E, l1, l2, l3, l4, l5⟩ := hW.obj o _ hg
        rw [hr] at l1; cases l1
        have hE := ents_of l4 l5
        rw [hxv]
        split at h
        · rename_i j vv hf
          simp only [Option.some.injEq, Prod.mk.injEq] at h
          obtain ⟨rfl, rfl⟩ := h
          obtain ⟨q, a1, a2⟩ := findKey_ok (w := w) hk hkey hi hE hf
          cases q with
          | none => exact a2.elim
          | some q =>
            refine .same hW ?_ (tup _ true _ a2.2.2.1)
            simp only [Instr.lookup, Sem.run_bind, run_underlying' hm, Result.andThen_ok, Sem.run_pure, MapKept.run_getObj_map l3]
            rw [checkKey_ok hk hkey hi]
            simp only [Result.andThen_ok, a1, Sem.run_bind, Sem.run_pure]
        · rename_i hf
          simp only [Option.some.injEq, Prod.mk.injEq] at h
          obtain ⟨rfl, rfl⟩ := h
          obtain ⟨q, a1, a2⟩ := findKey_ok (w := w) hk hkey hi hE hf
          cases q with
          | some _ => exact a2.elim
          | none =>
            refine .same hW ?_ (tup _ false _ hrz)
            simp only [Instr.lookup, Sem.run_bind, run_underlying' hm, Result.andThen_ok, Sem.run_pure, MapKept.run_getObj_map l3]
            rw [checkKey_ok hk hkey hi]
            simp only [Result.andThen_ok, a1, Sem.run_bind, hvz, Sem.run_pure]
        · cases h
      · cases h
    · cases h
  · cases h

/-- Keys that are alike are alike bit by bit. -/
theorem sameBits_of {k k' : AV} (he : keyEq k' k = true) (hs : shp k' k = true) {vk vk' : Value} (hr : Rep G k vk) (hr' : Rep G k' vk') : Instr.sameBits 10000 vk vk' = true := by
  unfold shp at hs
  split at hs
  · rename_i k1 a k2 b
    have e : k1 = k2 := by simpa using hs
    subst e
    rw [hr.int, hr'.int]
    simp only [keyEq, beq_self_eq_true, Bool.true_and, beq_iff_eq] at he
    simp [Instr.sameBits, he]
  · rename_i a b
    rw [(hr.lit').1, (hr'.lit').1]
    simp only [keyEq] at he
    have := (MapKept.bytes_beq _ _).1 he
    subst this
    simpa [Instr.sameBits] using he
  · rename_i as bs
    obtain ⟨us, rfl, hus⟩ := hr.agg'
    obtain ⟨vs, rfl, hvs⟩ := hr'.agg'
    have hs' : shp (.agg as) (.agg bs) = true := hs
    obtain ⟨hl, hint⟩ := shp_agg hs'
    simp only [keyEq, Bool.and_eq_true, beq_iff_eq] at he
    obtain ⟨_, hall⟩ := he
    unfold Instr.sameBits
    have h1 : us.length = vs.length := by rw [← hus.1, ← hvs.1, hl]
    simp only [Bool.and_eq_true, List.size_toArray, beq_iff_eq, h1, true_and, List.all_eq_true]
    intro p hp
    obtain ⟨q, hq, rfl⟩ := List.getElem_of_mem hp
    simp only [List.length_zip] at hq
    have g2 : q < as.length := by have := hvs.1; omega
    have g1 : q < bs.length := by omega
    obtain ⟨j, x, y, e1, e2⟩ := hint q _ _ (List.getElem?_eq_getElem g2) (List.getElem?_eq_getElem g1)
    have r1 := hus.2 q g1 (by omega)
    have r2 := hvs.2 q g2 (by omega)
    rw [e2] at r1
    rw [e1] at r2
    have hm : (as[q], bs[q]) ∈ as.zip bs := by
      have : (as.zip bs)[q]'(by simp; omega) = (as[q], bs[q]) := by simp
      rw [← this]
      exact List.getElem_mem _
    have := List.all_eq_true.1 hall _ hm
    rw [e1, e2] at this
    simp only [beq_self_eq_true, Bool.true_and, beq_iff_eq] at this
    simp only [List.getElem_zip, r1.int, r2.int, this]
    simp [Instr.sameBits]
  · cases hs

theorem run_setObj_map' {r : Nat} {E : Array MapEntry} {clock : Nat} (hb : w.heap[r]? = some (.map E clock)) (y : Obj) : (setObj r y).run P w = .ok () { w with heap := w.heap.setIfInBounds r y } := MapKept.run_setObj_map y hb

theorem simu_mapUpdate {mt kt et : TypeId} {kk : Nat} {m k x : Operand} (hm : P.underlying mt = some (.map kt et)) (hk : keyTy P kt = some kk) (hrm : Rep G (evalO σ m) (ρ m)) (hrk : Rep G (evalO σ k) (ρ k)) (hrx : Rep G (evalO σ x) (ρ x)) (hW : WRel n0 w0 G H w)
    (h : aop σ H (.mapUpdate kk m k x) = some (v, H')) : v = .und ∧ SimU P (Instr.mapUpdate mt (ρ m) (ρ k) (ρ x)) w n0 w0 G H' := by
  simp only [aop] at h
  split at h
  · rename_i hkey
    split at h
    · rename_i o e
      rw [e] at hrm
      split at h
      · rename_i es clock hg
        obtain ⟨r, hr, hxv⟩ := hrm.mp'
        obtain ⟨r', E, l1, l2, l3, l4, l5⟩ := hW.obj o _ hg
        rw [hr] at l1; cases l1
        have hE := ents_of l4 l5
        have hlt : r < w.heap.size := by
          rcases Nat.lt_or_ge r w.heap.size with h' | h'
          · exact h'
          · rw [Array.getElem?_eq_none h'] at l3; cases l3
        have hmem : ∀ k, G.mem r k = none := by
          intro k
          cases e : G.mem r k with
          | none => rfl
          | some u =>
            have := hW.mem _ _ _ e
            unfold World.cell? at this
            rw [l3] at this
            simp at this
        have hnew : ∀ y : Obj, ({ w with heap := w.heap.setIfInBounds r y } : World).heap[r]? = some y := by
          intro y
          show (w.heap.setIfInBounds r y)[r]? = some y
          rw [Array.getElem?_setIfInBounds, if_pos rfl, if_pos hlt]
        rw [hxv]
        split at h
        · rename_i j vv hf
          cases h
          refine ⟨rfl, ?_⟩
          obtain ⟨q, a1, a2⟩ := findKey_ok (w := w) hk hkey hrk hE hf
          cases q with
          | none => exact a2.elim
          | some q =>
            obtain ⟨b1, b2, b3, en, b4, b5, b6⟩ := a2
            obtain ⟨q1, q2⟩ := q
            dsimp only at b1
            subst b1
            have hj : j < es.length := by
              have := (List.getElem?_eq_some_iff.1 b4).1
              omega
            have hjE : j < E.size := by omega
            have hkeyj : Rep G en.1 E[j].key := by
              have h1 := (l5 j hj hjE).1
              have : es[j] = en := by
                have := (List.getElem?_eq_some_iff.1 b4).2
                simpa using this
              rw [this] at h1
              exact h1
            have hstay : Instr.sameBits 10000 E[j].key (ρ k) = true := sameBits_of b5 b6 hkeyj hrk
            refine ⟨{ w with heap := w.heap.setIfInBounds r (.map (E.modify j fun e => { e with key := ρ k, val := ρ x }) clock) }, G, ?_, Gh.le.refl _, ?_⟩
            · simp only [Instr.mapUpdate, Sem.run_bind, run_underlying' hm, Result.andThen_ok, MapKept.run_getObj_map l3]
              rw [checkKey_ok hk hkey hrk]
              simp only [Result.andThen_ok, a1, Array.getElem?_eq_getElem hjE, Option.map_some, Option.getD_some, Instr.keyThatStays, hstay, if_true, Sem.run_bind, Sem.run_pure]
              exact run_setObj_map' l3 _
            · refine hW.set_obj hg (b := r) hr (put_set w r _) hmem ⟨r, _, hr, l2, hnew _, by simpa using l4, fun i hi hi' => ?_⟩ hr
              simp only [List.getElem_modify, Array.getElem_modify]
              by_cases hji : j = i
              · subst hji
                simp only [if_true]
                exact ⟨hrk, hrx, (l5 j hj hjE).2.2⟩
              · simp only [hji, if_false]
                exact l5 i (by simpa using hi) (by simpa using hi')
        · rename_i hf
          cases h
          refine ⟨rfl, ?_⟩
          obtain ⟨q, a1, a2⟩ := findKey_ok (w := w) hk hkey hrk hE hf
          cases q with
          | some _ => exact a2.elim
          | none =>
            refine ⟨{ w with heap := w.heap.setIfInBounds r (.map (E.push { key := ρ k, val := ρ x, born := clock }) (clock + 1)) }, G, ?_, Gh.le.refl _, ?_⟩
            · simp only [Instr.mapUpdate, Sem.run_bind, run_underlying' hm, Result.andThen_ok, MapKept.run_getObj_map l3]
              rw [checkKey_ok hk hkey hrk]
              simp only [Result.andThen_ok, a1]
              exact run_setObj_map' l3 _
            · refine hW.set_obj hg (b := r) hr (put_set w r _) hmem ⟨r, _, hr, l2, hnew _, by simpa using l4, fun i hi hi' => ?_⟩ hr
              by_cases hij : i < es.length
              · rw [List.getElem_append_left hij, Array.getElem_push_lt (by omega)]
                exact l5 i hij (by omega)
              · simp only [List.length_append, List.length_cons, List.length_nil] at hi
                have hie : i = es.length := by omega
                have g1 : (es ++ [(evalO σ k, evalO σ x, clock)])[i]'(by simp; omega) = (evalO σ k, evalO σ x, clock) := by subst hie; simp
                have g2 : (E.push { key := ρ k, val := ρ x, born := clock })[i]'(by simp; omega) = { key := ρ k, val := ρ x, born := clock } := by rw [Array.getElem_push, dif_neg (by omega)]
                rw [g1, g2]
                exact ⟨hrk, hrx, rfl⟩
        · cases h
      · cases h
    · cases h
  · cases h

end Go.Abs
