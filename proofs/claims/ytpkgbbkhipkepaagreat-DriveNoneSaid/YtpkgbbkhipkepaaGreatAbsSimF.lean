/-
  EACH OPERATION OF THE ABSTRACT MACHINE STANDS FOR THE MODEL's: part F.
-/
import Derived.Test.YtpkgbbkhipkepaaGreatAbsSimE
namespace Go.Abs
open Go.RowKit

variable {P : Program} {n0 : Fr P} {w0 : World} {G : Gh} {H H' : AH} {w : World} {σ : List AV} {ρ : Operand → Value} {v : AV}

theorem isSl_und {t e : TypeId} (ht : isSl P t = some e) : P.underlying t = some (.slice e) := by
  unfold isSl at ht
  split at ht
  · cases ht; assumption
  · cases ht

theorem natOf_rep {x : AV} {vx : Value} {n : Nat} (h : natOf x = some n) (hx : Rep G x vx) : ∃ k, vx = .int k (n : Int) := by
  unfold natOf at h
  split at h
  · split at h
    · rename_i h0
      cases h
      rw [hx.int]
      exact ⟨_, by rw [Int.toNat_of_nonneg h0]⟩
    · cases h
  · cases h

theorem wrap_nat {n : Nat} (h : n < 2 ^ 63) : IntKind.i64.wrap (n : Int) = n := by
  unfold IntKind.wrap
  have e1 : IntKind.i64.bits = 64 := rfl
  have e2 : IntKind.i64.signed = true := rfl
  have h1 : ((n : Int) % (2 ^ 64 : Int)) = n := by
    apply Int.emod_eq_of_lt <;> omega
  simp only [e1, e2, h1, Bool.true_and]
  rw [if_neg]
  simp
  omega

theorem okRoom_spec {need bytes : Nat} (h : okRoom need bytes = true) : need * bytes ≤ 2 ^ 46 ∧ 1 ≤ bytes ∧ bytes ≤ 2 ^ 32 ∧ need ≤ 2 ^ 46 := by
  simp only [okRoom, Bool.and_eq_true, decide_eq_true_eq] at h
  refine ⟨h.1.1, h.1.2, h.2, ?_⟩
  have : need * 1 ≤ need * bytes := Nat.mul_le_mul_left _ h.1.2
  omega

theorem simv_mkSlice {t e : TypeId} {i : TypeInfo} {z : List AV} {vl vc : Value} {l c : Nat} {kl kc : IntKind} (ht : isSl P t = some e) (hi : P.info? e = some i) (hz : zeroC P e = some z) (hzl : z.length = i.size) (h1 : 1 ≤ i.size)
    (hl : vl = .int kl l) (hc : vc = .int kc c) (hlc : l ≤ c) (hr : okRoom c i.bytes = true) (hW : WRel n0 w0 G H w) (hF : Free n0 G H) :
    SimV P (Instr.makeSlice t vl vc) w n0 w0 G (.rs H.n 0 i.size 0 l) (H.push (.cells e 0 0 (List.replicate l z).flatten)) := by
  obtain ⟨r1, r2, r3, r4⟩ := okRoom_spec hr
  obtain ⟨u, z1, z2⟩ := zeroC_run (G := G) hz w
  have hul : z.length = u.cells.size := by have := z2.1; simpa using this
  subst hl hc
  have hwl : IntKind.i64.wrap (l : Int) = l := wrap_nat (by omega)
  have hwc : IntKind.i64.wrap (c : Int) = c := wrap_nat (by omega)
  have hb1 : ¬ ((i.bytes : Int) * (c : Int) > 2 ^ 48) := by
    have e1 : ((i.bytes : Int) * (c : Int)) = ((c * i.bytes : Nat) : Int) := by rw [Nat.mul_comm]; simp
    rw [e1]; omega
  have hsz : (sizeOf e).run P w = .ok i.size w := run_sizeOf' (by simp [sizeN, hi]) w
  have key : ∃ C : Array Value, (Instr.makeSlice t (.int kl l) (.int kc c)).run P w = .ok (.slice (some ⟨w.heap.size, 0, none⟩) l c) (w.alloc (.cells C e)) ∧ C.size = c * i.size ∧ (∀ k (h : k < (List.replicate l z).flatten.length) (h' : k < C.size), Rep G (List.replicate l z).flatten[k] C[k]) := by
    have hfl : (List.replicate l z).flatten.length = l * i.size := by simp [hzl]
    have hpre : ∀ k (h : k < (List.replicate l z).flatten.length) (h2 : k < (List.replicate c z).flatten.length), (List.replicate l z).flatten[k] = (List.replicate c z).flatten[k] := by
      intro k h h2
      have : List.replicate c z = List.replicate l z ++ List.replicate (c - l) z := by
        rw [List.replicate_append_replicate]; congr 1; omega
      simp only [this, List.flatten_append]
      rw [List.getElem_append_left h]
    have hreps := flatten_replicate_reps z2 (by omega) c
    by_cases h0 : c * i.size = 0
    · have hc0 : c = 0 := by
        rcases Nat.mul_eq_zero.1 h0 with h | h
        · exact h
        · omega
      subst hc0
      have hl0 : l = 0 := by omega
      subst hl0
      refine ⟨#[], ?_, by simp, fun k h => absurd h (by simp)⟩
      simp only [Instr.makeSlice, Sem.run_bind, run_underlying' (isSl_und ht), Result.andThen_ok, asInt, asIntOf, Sem.run_pure, run_typeInfo' hi, hwl]
      simp [hsz, newRow]
      exact congrArg (fun C => w.alloc (.cells C e)) (by apply Array.ext <;> simp)
    · refine ⟨(Array.range (c * i.size)).map (u.cells[· % u.cells.size]!), ?_, by simp, fun k h h' => ?_⟩
      · simp only [Instr.makeSlice, Sem.run_bind, run_underlying' (isSl_und ht), Result.andThen_ok, asInt, asIntOf, Sem.run_pure, run_typeInfo' hi, hwl, hwc]
        have c1 : (decide ((c : Int) < 0) || decide ((i.bytes : Int) * (c : Int) > 2 ^ 48)) = false := by simp only [Bool.or_eq_false_iff, decide_eq_false_iff_not]; exact ⟨by omega, hb1⟩
        have c2 : (decide ((l : Int) < 0)) = false := by simp
        have c3 : (decide ((l : Int) > (c : Int))) = false := by simp; omega
        simp only [c1, c2, c3, Bool.or_self, Bool.false_eq_true, if_false, Sem.run_bind, run_askRoom, Result.andThen_ok, hsz, Int.toNat_natCast, h0, z1, Sem.run_pure, newRow, run_newObj]
        rfl
      · have hk2 : k < (List.replicate c z).flatten.length := by
          rw [hfl] at h
          have : l * i.size ≤ c * i.size := Nat.mul_le_mul_right _ hlc
          simp [hzl]; omega
        rw [hpre k h hk2]
        have := hreps.2 k hk2 (by simp [hzl] at hk2 ⊢; omega)
        simpa [hzl] using this
  obtain ⟨C, k1, k2, k3⟩ := key
  have hfl : (List.replicate l z).flatten.length = l * i.size := by simp [hzl]
  have hmul : l * i.size ≤ c * i.size := Nat.mul_le_mul_right _ hlc
  obtain ⟨g1, g2⟩ := hW.push_cells hF (cs := (List.replicate l z).flatten) (C := C) (ty := e) (by omega) k3
  refine ⟨_, _, _, k1, g1, g2, ?_⟩
  have := Rep.rs (G := G.withLoc H.n 0 (w.heap.size, 0, C.size)) (o := H.n) (g := 0) (sz := i.size) (off := 0) (len := l) (b := w.heap.size) (s := 0) (e := C.size) (cap := c) (by simp [Gh.withLoc]) hlc (by simp; omega)
  simpa using this

theorem simv_indexAddr {t e : TypeId} {sz : Nat} {x i : Operand} (ht : isSl P t = some e) (hs : sizeN P e = some sz) (hx : Rep G (evalO σ x) (ρ x)) (hi : Rep G (evalO σ i) (ρ i)) (hW : WRel n0 w0 G H w)
    (h : aop σ H (.indexAddr sz x i) = some (v, H')) : SimV P (Instr.indexAt t (ρ x) (ρ i)) w n0 w0 G v H' := by
  simp only [aop] at h
  split at h
  · rename_i n t' sz' xs hn hxs
    rw [hxs] at hx
    obtain ⟨k, hk⟩ := natOf_rep hn hi
    rw [hk]
    split at h
    · rename_i hsz
      subst hsz
      cases hy : xs[n]? with
      | none => simp [hy] at h
      | some y =>
        simp [hy] at h
        obtain ⟨rfl, rfl⟩ := h
        obtain ⟨b, k0, cap, us, hv, h1, h2, h3, h4, h5⟩ := hx.sl'
        rw [hv]
        obtain ⟨hnl, rfl⟩ := List.getElem?_eq_some_iff.1 hy
        -- the cells of element n
        have hfl : ∀ (l : List AV) (n : Nat) (hn : n < l.length), (∀ x ∈ l, x.cells.length = sz) → ((flat l).drop (n * sz)).take sz = l[n].cells := by
          intro l
          induction l with
          | nil => intro n hn; simp at hn
          | cons a l ih =>
            intro n hn hall
            have ha := hall a (List.mem_cons_self)
            cases n with
            | zero =>
              simp only [flat, List.flatMap_cons, Nat.zero_mul, List.drop_zero, List.getElem_cons_zero]
              rw [← ha, List.take_left']
              rfl
            | succ n =>
              simp only [flat, List.flatMap_cons, List.getElem_cons_succ]
              rw [show (n + 1) * sz = sz + n * sz by rw [Nat.add_mul]; omega, ← List.drop_drop]
              have : (a.cells ++ List.flatMap AV.cells l).drop sz = List.flatMap AV.cells l := by rw [← ha, List.drop_left']; rfl
              rw [this]
              exact ih n (by simpa using hn) (fun x hx => hall x (List.mem_cons_of_mem _ hx))
        have hfll : (flat xs).length = xs.length * sz := by
          have : ∀ (l : List AV), (∀ x ∈ l, x.cells.length = sz) → (flat l).length = l.length * sz := by
            intro l
            induction l with
            | nil => intro _; simp [flat]
            | cons a l ih =>
              intro hall
              have := ih (fun x hx => hall x (List.mem_cons_of_mem _ hx))
              simp only [flat] at this
              simp only [flat, List.flatMap_cons, List.length_append, List.length_cons, this, hall a (List.mem_cons_self), Nat.add_mul]
              omega
          exact this xs h2
        have e1 := hfl xs n hnl h2
        have hru := (h1.drop (n * sz)).take sz
        rw [e1] at hru
        have hle : n * sz + sz ≤ xs.length * sz := by
          have : (n + 1) * sz ≤ xs.length * sz := Nat.mul_le_mul_right _ hnl
          rw [Nat.add_mul] at this
          omega
        have hul : us.length = xs.length * sz := by rw [← h1.1, hfll]
        refine .same hW (u := .pointer (some ⟨b, k0 + n * sz, none⟩)) ?_ (.ip hru.1 hru.2 (fun j hj => by
          simp only [List.getElem_take, List.getElem_drop]
          have := h3 (n * sz + j) (by simp at hj; omega)
          rw [← this]; congr 1; omega))
        simp only [Instr.indexAt, asIntOf, Sem.run_bind, Sem.run_pure, Result.andThen_ok, run_underlying' (isSl_und ht)]
        have c1 : (0 ≤ (n : Int) ∧ (n : Int) < (xs.length : Int)) := by omega
        simp only [c1, and_self, if_true, Int.toNat_natCast, addr_add, Sem.run_bind, run_sizeOf' hs, Result.andThen_ok, Sem.run_pure]
    · cases h
  · rename_i n o g sz' off len hn hxs
    rw [hxs] at hx
    obtain ⟨k, hk⟩ := natOf_rep hn hi
    rw [hk]
    split at h
    · rename_i ty g' fz cs hg
      split at h
      · rename_i hc
        obtain ⟨rfl, rfl, hnl, hle⟩ := hc
        cases h
        generalize ρ x = vx at hx
        cases hx with
        | rs l1 l2 l3 =>
          have hr := Rep.ptr (G := G) (k := (off + n) * sz) l1
          refine .same hW ?_ hr
          simp only [Instr.indexAt, asIntOf, Sem.run_bind, Sem.run_pure, Result.andThen_ok, run_underlying' (isSl_und ht)]
          have c1 : (0 ≤ (n : Int) ∧ (n : Int) < (len : Int)) := by omega
          simp only [c1, and_self, if_true, Int.toNat_natCast, addr_add, Sem.run_bind, run_sizeOf' hs, Result.andThen_ok, Sem.run_pure]
          rw [Nat.add_mul]
          simp [Nat.add_assoc]
        | rs0 => omega
      · cases h
    · cases h
  · cases h

theorem simv_index {t : TypeId} {x i : Operand} (ht : P.underlying t = some .string) (hx : Rep G (evalO σ x) (ρ x)) (hi : Rep G (evalO σ i) (ρ i)) (hW : WRel n0 w0 G H w)
    (h : aop σ H (.index x i) = some (v, H')) : SimV P (Instr.index t (ρ x) (ρ i)) w n0 w0 G v H' := by
  simp only [aop] at h
  split at h
  · rename_i n s hn hxs
    rw [hxs] at hx
    obtain ⟨k, hk⟩ := natOf_rep hn hi
    rw [hk, (hx.lit').1]
    split at h
    · rename_i b hb
      cases h
      refine .same hW ?_ (.lit rfl)
      simp only [Instr.index, asIntOf, Sem.run_bind, Sem.run_pure, Result.andThen_ok, run_underlying' ht]
      have hs : s[n]? = some b := by
        obtain ⟨h1, h2⟩ := List.getElem?_eq_some_iff.1 hb
        have h1' : n < s.size := by simpa using h1
        rw [getElem?_pos s n h1']
        congr 1
      have c0 : (0 ≤ (n : Int)) := by omega
      simp only [c0, if_true, Int.toNat_natCast, hs]
      rfl
    · cases h
  · cases h

theorem simv_extract {i : Nat} {x : Operand} (hx : Rep G (evalO σ x) (ρ x)) (hW : WRel n0 w0 G H w) (h : aop σ H (.extract i x) = some (v, H')) : SimV P (Instr.extract (ρ x) i) w n0 w0 G v H' := by
  simp only [aop] at h
  split at h
  · rename_i vs hxs
    rw [hxs] at hx
    obtain ⟨us, hu, hr⟩ := hx.tup'
    rw [hu]
    cases hy : vs[i]? with
    | none => simp [hy] at h
    | some y =>
      simp [hy] at h
      obtain ⟨rfl, rfl⟩ := h
      obtain ⟨u, h1, h2⟩ := hr.get? hy
      refine .same hW ?_ h2
      simp only [Instr.extract]
      rw [show (us.toArray)[i]? = some u by simpa using h1]
      rfl
  · cases h

theorem simv_typeIs {t a : TypeId} {ms : Array (String × TypeId)} {d : TypeDesc} {ok : Bool} {z : AV} {x : Operand} (_ht : P.underlying t = some (.interface ms)) (ha : P.underlying a = some d) (hd : ∀ ms, d ≠ .interface ms) (hz : zeroV P a = some z)
    (hx : Rep G (evalO σ x) (ρ x)) (hW : WRel n0 w0 G H w) (h : aop σ H (.typeIs a ok z x) = some (v, H')) : SimV P (Instr.typeAssert (ρ x) t a ok) w n0 w0 G v H' := by
  obtain ⟨u, z1, z2⟩ := zeroV_run (G := G) hz w
  have two : ∀ {y : AV} {vy : Value} (b : Bool), Rep G y vy → Rep G (.tup [y, .bool b]) (.tuple #[vy, .bool b]) := fun {y vy} b hy => by
    have := Rep.tup (G := G) (cs := [y, .bool b]) (us := [vy, .bool b]) rfl (Reps.cons hy (Reps.cons (.lit rfl) Reps.nil)).2
    simpa using this
  simp only [aop] at h
  split at h
  · rename_i hxs
    rw [hxs] at hx
    rw [(hx.lit').1]
    split at h
    · rename_i hok
      subst hok
      cases h
      refine .same hW ?_ (two false z2)
      simp only [Instr.typeAssert, Sem.run_bind, run_underlying' ha, Result.andThen_ok]
      cases d <;> first | exact absurd rfl (hd _) | (simp only [if_true, Sem.run_bind, z1, Result.andThen_ok, Sem.run_pure])
    · cases h
  · rename_i u' y hxs
    rw [hxs] at hx
    generalize ρ x = vx at hx
    cases hx with
    | ifc hy =>
      rename_i vy
      by_cases he : u' = a
      · subst he
        simp only [if_true] at h
        cases h
        cases ok with
        | true =>
          refine .same hW ?_ (two true hy)
          simp only [Instr.typeAssert, Sem.run_bind, run_underlying' ha, Result.andThen_ok]
          cases d <;> first | exact absurd rfl (hd _) | (simp only [if_true, Sem.run_pure])
        | false =>
          refine .same hW ?_ hy
          simp only [Instr.typeAssert, Sem.run_bind, run_underlying' ha, Result.andThen_ok]
          cases d <;> first | exact absurd rfl (hd _) | (simp only [if_true, Sem.run_pure, Bool.false_eq_true, if_false])
      · simp only [he, if_false] at h
        split at h
        · rename_i hok
          subst hok
          cases h
          refine .same hW ?_ (two false z2)
          simp only [Instr.typeAssert, Sem.run_bind, run_underlying' ha, Result.andThen_ok]
          cases d <;> first | exact absurd rfl (hd _) | (simp only [he, if_false, if_true, Sem.run_bind, z1, Result.andThen_ok, Sem.run_pure])
        · cases h
  · cases h

theorem simv_minmax {mx : Bool} {xs : List Operand} {r : AV} (hE : ∀ x ∈ xs, Rep G (evalO σ x) (ρ x)) (hW : WRel n0 w0 G H w)
    (h : (match xs.map (evalO σ) with
      | [.lit (.int k a), .lit (.int k' b)] => if k = k' then some ((.int k (if (if mx then b > a else b < a) then b else a) : AV), H) else none
      | _ => none) = some (r, H')) (ts : Array TypeId) (ty : TypeId) :
    SimV P (if mx then Builtin.max_ ts ty (xs.map ρ).toArray else Builtin.min_ ts ty (xs.map ρ).toArray) w n0 w0 G r H' := by
  split at h
  · rename_i k a k' b he
    split at h
    · rename_i hk
      subst hk
      cases h
      cases xs with
      | nil => simp at he
      | cons x xs => cases xs with
        | nil => simp at he
        | cons y xs => cases xs with
          | cons _ _ => simp at he
          | nil =>
            simp only [List.map_cons, List.map_nil, List.cons.injEq, and_true] at he
            have h1 := hE x (by simp)
            have h2 := hE y (by simp)
            rw [he.1] at h1
            rw [he.2] at h2
            have h1 := h1.int
            have h2 := h2.int
            cases mx with
            | true =>
              refine .same hW ?_ (.lit rfl)
              simp only [if_true, List.map_cons, List.map_nil, h1, h2, Builtin.max_]
              rfl
            | false =>
              refine .same hW ?_ (.lit rfl)
              simp only [Bool.false_eq_true, if_false, List.map_cons, List.map_nil, h1, h2, Builtin.min_]
              rfl
    · cases h
  · cases h

theorem simv_len {t : TypeId} {k : Nat} {x : Operand} (ht : (k = 0 ∧ P.underlying t = some .string) ∨ (k = 1 ∧ ∃ e, P.underlying t = some (.slice e)) ∨ (k = 2 ∧ ∃ a e, P.underlying t = some (.map a e))) (hx : Rep G (evalO σ x) (ρ x)) (hW : WRel n0 w0 G H w)
    (ty : TypeId) (h : aop σ H (.len k x) = some (v, H')) : SimV P (Builtin.len_ #[t] ty #[ρ x]) w n0 w0 G v H' := by
  simp only [aop] at h
  generalize evalO σ x = y at *
  generalize ρ x = u at *
  have e1 : (#[t] : Array TypeId)[0]? = some t := rfl
  have e2 : (#[u] : Array Value)[0]? = some u := rfl
  split at h
  · cases h
    obtain ⟨_, ht⟩ | ⟨h1, _⟩ | ⟨h1, _⟩ := ht
    · rw [(hx.lit').1] at e2 ⊢
      refine .same hW ?_ (.lit rfl)
      simp only [Builtin.len_, e1, e2, Sem.run_bind, run_underlying' ht, Result.andThen_ok]
      rfl
    · cases h1
    · cases h1
  · obtain ⟨h1, _⟩ | ⟨_, e, ht⟩ | ⟨h1, _⟩ := ht
    · cases h1
    · cases hl : lenOf y with
      | none => simp [hl] at h
      | some n =>
        simp [hl] at h
        obtain ⟨rfl, rfl⟩ := h
        have : ∃ a cap, u = .slice a n cap := by
          unfold lenOf at hl
          split at hl <;> first | (cases hl; done) | skip
          · cases hl; rw [(hx.lit').1]; exact ⟨_, _, rfl⟩
          · cases hl; obtain ⟨b, k, cap, us, rfl, _⟩ := hx.sl'; exact ⟨_, _, rfl⟩
          · cases hl; cases hx <;> exact ⟨_, _, rfl⟩
        obtain ⟨a, cap, rfl⟩ := this
        refine .same hW ?_ (.lit rfl)
        simp only [Builtin.len_, e1, e2, Sem.run_bind, run_underlying' ht, Result.andThen_ok]
        rfl
    · cases h1
  · obtain ⟨h1, _⟩ | ⟨h1, _⟩ | ⟨_, a, e, ht⟩ := ht
    · cases h1
    · cases h1
    · split at h
      · rename_i o es clock hg
        cases h
        obtain ⟨r, hr, rfl⟩ := hx.mp'
        obtain ⟨r', E, g1, g2, g3, g4, g5⟩ := hW.obj _ _ hg
        rw [hr] at g1
        cases g1
        refine .same hW ?_ (.lit rfl)
        simp only [Builtin.len_, e1, e2, Sem.run_bind, run_underlying' ht, Result.andThen_ok]
        have : (getObj r).run P w = .ok (.map E clock) w := by simp [getObj, Sem.run, g3]
        simp only [this, Result.andThen_ok, g4]
        rfl
      · cases h
  · obtain ⟨h1, _⟩ | ⟨h1, _⟩ | ⟨_, a, e, ht⟩ := ht
    · cases h1
    · cases h1
    · cases h
      rw [(hx.lit').1] at e2 ⊢
      refine .same hW ?_ (.lit rfl)
      simp only [Builtin.len_, e1, e2, Sem.run_bind, run_underlying' ht, Result.andThen_ok]
      rfl
  · cases h

theorem simv_capn {t e : TypeId} {x : Operand} (ht : P.underlying t = some (.slice e)) (hx : Rep G (evalO σ x) (ρ x)) (hW : WRel n0 w0 G H w) (ty : TypeId) (h : aop σ H (.capn x) = some (v, H')) : SimV P (Builtin.cap_ #[t] ty #[ρ x]) w n0 w0 G v H' := by
  simp only [aop] at h
  generalize evalO σ x = y at *
  generalize ρ x = u at *
  have e1 : (#[t] : Array TypeId)[0]? = some t := rfl
  have : ∃ n a m, v = .int .i64 (n : Nat) ∧ u = .slice a m n ∧ H' = H := by
    split at h
    · cases h; rw [(hx.lit').1]; exact ⟨0, _, _, rfl, rfl, rfl⟩
    · cases h; obtain ⟨b, k, cap, us, rfl, _, _, _, _, h5⟩ := hx.sl'; cases h5; exact ⟨_, _, _, rfl, rfl, rfl⟩
    · cases h; obtain ⟨b, k, cap, us, rfl, _, _, _, _, h5⟩ := hx.sl'; obtain ⟨h5, _⟩ := h5; cases h5; exact ⟨_, _, _, rfl, rfl, rfl⟩
    · cases h
  obtain ⟨n, a, m, rfl, rfl, rfl⟩ := this
  refine .same hW ?_ (.lit rfl)
  have e2 : (#[Value.slice a m n] : Array Value)[0]? = some (.slice a m n) := rfl
  simp only [Builtin.cap_, e1, e2, Sem.run_bind, run_underlying' ht, Result.andThen_ok]
  rfl

theorem simv_range {t : TypeId} {x : Operand} (ht : P.underlying t = some .string) (hx : Rep G (evalO σ x) (ρ x)) (hW : WRel n0 w0 G H w) (hF : Free n0 G H) (h : aop σ H (.range true x) = some (v, H')) : SimV P (Instr.range t (ρ x)) w n0 w0 G v H' := by
  simp only [aop] at h
  split at h
  · rename_i s _ hxs
    cases h
    rw [hxs] at hx
    rw [(hx.lit').1]
    obtain ⟨g1, g2⟩ := hW.push_iter hF s
    refine ⟨.pointer (some ⟨w.heap.size, 0, none⟩), _, _, ?_, g1, g2, .itr (by simp [Gh.withMp])⟩
    simp only [Instr.range, Sem.run_bind, run_underlying' ht, Result.andThen_ok, Sem.run_pure, run_newObj]
    rfl
  · cases h

theorem simv_next {x : Operand} (hx : Rep G (evalO σ x) (ρ x)) (hW : WRel n0 w0 G H w) (ty : TypeId) (h : aop σ H (.next x) = some (v, H')) : SimV P (Instr.next (ρ x) true ty) w n0 w0 G v H' := by
  simp only [aop] at h
  split at h
  · rename_i o hxs
    rw [hxs] at hx
    split at h
    · rename_i s pos hg
      obtain ⟨r, g1, g2, g3⟩ := hW.obj _ _ hg
      generalize ρ x = vx at hx
      cases hx with
      | itr hm =>
        rw [g1] at hm
        cases hm
        have hget : (getObj r).run P w = .ok (.stringIter s pos) w := by simp [getObj, Sem.run, g3]
        split at h
        · rename_i hpos
          cases h
          have hset : (setObj r (.stringIter s (pos + (Utf8.decode s pos).2))).run P w = .ok () { w with heap := w.heap.setIfInBounds r (.stringIter s (pos + (Utf8.decode s pos).2)) } := by simp [setObj, Sem.run, g3]
          have hr : Rep G (.tup [.bool true, .int .i64 pos, .int .i32 (Utf8.decode s pos).1]) (.tuple #[.bool true, .int .i64 pos, .int .i32 (Utf8.decode s pos).1]) := by
            have := Rep.tup (G := G) (cs := [.bool true, .int .i64 pos, .int .i32 (Utf8.decode s pos).1]) (us := [.bool true, .int .i64 pos, .int .i32 (Utf8.decode s pos).1]) rfl (Reps.cons (.lit rfl) (Reps.cons (.lit rfl) (Reps.cons (.lit rfl) Reps.nil))).2
            simpa using this
          refine ⟨_, { w with heap := w.heap.setIfInBounds r (.stringIter s (pos + (Utf8.decode s pos).2)) }, G, ?_, Gh.le.refl _, ?_, hr⟩
          · simp only [Instr.next, Sem.run_bind, hget, Result.andThen_ok, hpos, if_true, hset, Sem.run_pure]
            rfl
          · exact hW.set_obj hg (b := r) g1 (by
              have : r < w.heap.size := by
                rcases Nat.lt_or_ge r w.heap.size with h' | h'
                · exact h'
                · rw [Array.getElem?_eq_none h'] at g3; cases g3
              refine ⟨rfl, rfl, rfl, by simp, fun k hk => ?_⟩
              rw [Array.getElem?_setIfInBounds, if_neg (by omega)]) (fun k => by
              have := hW.obj _ _ hg
              cases e : G.mem r k with
              | none => rfl
              | some u =>
                have := hW.mem _ _ _ e
                unfold World.cell? at this
                rw [g3] at this
                cases this) ⟨r, g1, g2, by
              have : r < w.heap.size := by
                rcases Nat.lt_or_ge r w.heap.size with h' | h'
                · exact h'
                · rw [Array.getElem?_eq_none h'] at g3; cases g3
              simp [this]⟩ g1
        · rename_i hpos
          cases h
          have hr : Rep G (.tup [.bool false]) (.tuple #[.bool false]) := by
            have := Rep.tup (G := G) (cs := [.bool false]) (us := [.bool false]) rfl (Reps.cons (.lit rfl) Reps.nil).2
            simpa using this
          refine .same hW ?_ hr
          simp only [Instr.next, Sem.run_bind, hget, Result.andThen_ok, hpos, if_false, Sem.run_pure]
    · cases h
  · cases h

end Go.Abs
