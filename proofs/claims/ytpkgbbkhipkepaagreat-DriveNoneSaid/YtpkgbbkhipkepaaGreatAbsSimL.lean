/-
  EACH OPERATION OF THE ABSTRACT MACHINE STANDS FOR THE MODEL's: part L: unsafe pointers.
-/
import Derived.Test.YtpkgbbkhipkepaaGreatAbsSimK
import Derived.Lib.Builder
namespace Go.Abs
open Go.RowKit

variable {P : Program} {n0 : Fr P} {w0 : World} {G : Gh} {H H' : AH} {w : World} {σ : List AV} {ρ : Operand → Value} {v : AV}

theorem shape_of {b : Nat} {C : Array Value} {ty : TypeId} {fr : Nat × Nat} (h : w.heap[b]? = some (.cells C ty fr)) : w.shape? b = some (ty, C.size) := by
  unfold World.shape?
  rw [h]

theorem liesAt_self {e : TypeId} (hc : P.cellsOf e ≠ 0) (count : Nat) (hn : 1 ≤ count) : liesAt P P.depth e count 0 e 1 = true := by
  have hd : P.depth = (2 * (P.types.size + Made.depth) + 1) + 1 := rfl
  rw [hd]
  simp only [liesAt, Bool.or_eq_true]
  left
  rw [hd]
  simp [rowAt, hc, hn, sameLayout]

theorem cellsOf_size {t : TypeId} {n : Nat} (h : sizeN P t = some n) : P.cellsOf t = n := by
  have hinfo : ∃ i, P.info? t = some i ∧ i.size = n := by
    unfold sizeN at h
    cases hi : P.info? t with
    | none => simp [hi] at h
    | some i => exact ⟨i, rfl, by simpa [hi] using h⟩
  obtain ⟨i, h1, h2⟩ := hinfo
  simp [Program.cellsOf, h1, h2]

theorem simv_convUP {s d el : TypeId} {sz : Nat} {x : Operand} (ht : (P.underlying s = some (.pointer el) ∧ P.underlying d = some .unsafePointer) ∨ (P.underlying s = some .unsafePointer ∧ P.underlying d = some (.pointer el)))
    (hs : sizeN P el = some sz) (h1 : sz ≠ 0) (hx : Rep G (evalO σ x) (ρ x)) (hW : WRel n0 w0 G H w) (h : aop σ H (.convUP el sz x) = some (v, H')) : SimV P (convert s d (ρ x)) w n0 w0 G v H' := by
  simp only [aop] at h
  split at h
  · rename_i o g hxe
    rw [hxe] at hx
    split at h
    · rename_i ty' g' fz cs hg
      split at h
      · rename_i hc
        obtain ⟨rfl, rfl, hlen, rfl⟩ := hc
        cases h
        obtain ⟨b, s', e, C, fr, l1, l2, l3, l4, l5, l6, l7, l8, l9⟩ := hW.obj o _ hg
        have hs0 := l9 rfl
        subst hs0
        obtain ⟨b', s2, e2, k1, hv⟩ := hx.ptr'
        rw [l1] at k1
        cases k1
        rw [hv]
        have hinfo : ∃ i, P.info? el = some i ∧ i.size = sz := by
          unfold sizeN at hs
          cases hi : P.info? el with
          | none => simp [hi] at hs
          | some i => exact ⟨i, rfl, by simpa [hi] using hs⟩
        obtain ⟨i, hi, hisz⟩ := hinfo
        refine .same hW ?_ (by rw [hv] at hx; exact hx)
        rcases ht with ⟨t1, t2⟩ | ⟨t1, t2⟩
        · exact Lib.run_to_unsafe w _ t1 t2 hi (by omega) (shape_of l3) (by simp; omega)
        · refine Lib.run_from_unsafe w _ t1 t2 hi (shape_of l3) ?_
          have hco := cellsOf_size hs
          refine liesAt_self (by rw [hco]; exact h1) _ ?_
          rw [hco]
          rw [Nat.le_div_iff_mul_le (by omega)]
          omega
      · cases h
    · cases h
  · cases h

theorem simv_usData {ts : Array TypeId} {ty : TypeId} {x : Operand} (hx : Rep G (evalO σ x) (ρ x)) (hW : WRel n0 w0 G H w) (h : aop σ H (.usData x) = some (v, H')) : SimV P (Builtin.unsafeSliceData_ ts ty #[ρ x]) w n0 w0 G v H' := by
  simp only [aop] at h
  split at h
  · rename_i hxe
    rw [hxe] at hx
    cases h
    refine .same hW ?_ (.lit rfl)
    rw [(hx.lit').1]
    rfl
  · rename_i o xs hxe
    rw [hxe] at hx
    split at h
    · rename_i ty' e hg
      split at h
      · rename_i he
        obtain ⟨he, hx0⟩ := he
        cases h
        obtain ⟨b, e', c, C, fr, t1, t2, t3, t4, t5, t6, t7, t8⟩ := hW.obj o _ hg
        obtain ⟨q1, _⟩ := t8 _ he
        obtain ⟨b2, k, cap, us, hv, g1, g2, g3, g4, g5⟩ := hx.sl'
        have hpos : 0 < xs.length := List.length_pos_iff.2 hx0
        rcases g5 with ⟨_, g5⟩ | g5
        · omega
        · rw [t1] at g5
          cases g5
          have hk : k = 0 := by omega
          subst hk
          refine .same hW (u := .pointer (some ⟨b, 0, none⟩)) ?_ (.dp t1 g1.1 g1.2 g3)
          rw [hv]
          exact Lib.run_unsafeSliceData_row w ts ty _ _ _ (by omega)
      · cases h
    · cases h
  · cases h

theorem run_loadBytes_u8 : ∀ (l : List Value) (bs : List UInt8) (a : Addr) (acc : ByteArray), l.length = bs.length → (∀ i (h : i < l.length) (h' : i < bs.length), ∃ n, l[i] = .int .u8 n ∧ bs[i] = UInt8.ofNat n.toNat) →
    (∀ j (h : j < l.length), w.cell? (a.add j) = some l[j]) → (loadBytes a acc l.length).run P w = .ok ⟨acc.data ++ bs.toArray⟩ w := by
  intro l
  induction l with
  | nil =>
    intro bs a acc hl _ _
    have : bs = [] := by simpa using hl.symm
    subst this
    simp [loadBytes]
  | cons x l ih =>
    intro bs a acc hl hb hc
    cases bs with
    | nil => simp at hl
    | cons y bs =>
      obtain ⟨n, h1, h2⟩ := hb 0 (by simp) (by simp)
      simp only [List.getElem_cons_zero] at h1 h2
      have h0 : w.cell? a = some x := by
        have := hc 0 (by simp)
        simpa [Addr.add] using this
      have ih := ih bs (a.add 1) (acc.push y) (by simpa using hl) (fun i hi hi' => by
        have := hb (i + 1) (by simpa using hi) (by simpa using hi')
        simpa using this) (fun j hj => by
        have := hc (j + 1) (by simpa using hj)
        have e : (a.add 1).add j = a.add (j + 1) := by
          unfold Addr.add
          by_cases hj : j = 0
          · subst hj; simp
          · simp [hj]; omega
        rw [e]; simpa using this)
      rw [h1] at h0
      simp only [List.length_cons, loadBytes, Sem.run_bind, run_load, h0, Result.andThen]
      have hy : n.toNat.toUInt8 = y := h2.symm
      rw [hy, ih]
      congr 1
      apply ByteArray.ext
      simp [ByteArray.push]

theorem simv_usString {pt it ty e : TypeId} {p n : Operand} (hp : P.underlying pt = some (.pointer e)) (hs : sizeN P e = some 1) (hx : Rep G (evalO σ p) (ρ p)) (hn : Rep G (evalO σ n) (ρ n)) (hW : WRel n0 w0 G H w)
    (h : aop σ H (.usString e p n) = some (v, H')) : SimV P (Builtin.unsafeString_ #[pt, it] ty #[ρ p, ρ n]) w n0 w0 G v H' := by
  simp only [aop] at h
  split at h
  · rename_i hpe hne
    rw [hpe] at hx
    cases h
    obtain ⟨k, hk⟩ := natOf_rep hne hn
    refine .same hW ?_ (.lit rfl)
    rw [(hx.lit').1, hk]
    have hdef : Builtin.unsafeString_ #[pt, it] ty #[.pointer none, .int k ((0 : Nat) : Int)] =
        (do
          let n ← asInt (.int k ((0 : Nat) : Int))
          if n < 0 then runtimePanic (.error "unsafe.String: len out of range")
          if n > IntKind.i64.max then unsupported (.unsafePointer "String: a length above the largest int")
          if n = 0 then pure (.string .empty)
          else runtimePanic (.error "unsafe.String: ptr is nil and len is not zero")) := rfl
    have hmax : IntKind.i64.max = 9223372036854775807 := rfl
    rw [hdef]
    simp [asInt, asIntOf, hmax]
  · rename_i o xs m hpe hne
    rw [hpe] at hx
    split at h
    · rename_i ty' e0 hg
      split at h
      · rename_i hc
        obtain ⟨rfl, rfl, hlen, hm1, hm2⟩ := hc
        cases hb : toBytes? xs with
        | none => simp [hb] at h
        | some bs =>
          simp only [hb, Option.map_some, Option.some.injEq, Prod.mk.injEq] at h
          obtain ⟨rfl, rfl⟩ := h
          obtain ⟨k, hk⟩ := natOf_rep hne hn
          obtain ⟨b, e', c, C, fr, t1, t2, t3, t4, t5, t6, t7, t8⟩ := hW.obj o _ hg
          obtain ⟨q1, q2⟩ := t8 _ rfl
          subst q1
          have hd : ∃ us, ρ p = .pointer (some ⟨b, 0, none⟩) ∧ Reps G xs us ∧ (∀ i (h : i < us.length), G.mem b (0 + i) = some us[i]) := by
            generalize ρ p = vp at hx
            cases hx with
            | dp k1 k2 k3 k4 => rw [t1] at k1; cases k1; exact ⟨_, rfl, ⟨k2, k3⟩, k4⟩
          obtain ⟨us, hv, hr, hmem⟩ := hd
          obtain ⟨b1, b2⟩ := toBytes_spec _ _ _ hb hr
          have hul : us.length = m := by rw [← hr.1]; exact hlen
          have hload := run_loadBytes_u8 (P := P) (w := w) us bs ⟨b, 0, none⟩ .empty b1 b2 (fun j hj => by
            have := hW.mem _ _ _ (hmem j hj)
            rw [addr_add]
            exact this)
          rw [hul] at hload
          have hcell : P.cellsOf e = 1 := cellsOf_size hs
          have hlies : liesAt P P.depth e (C.size / P.cellsOf e) 0 e m = true := Lib.liesAt_bytes hcell _ _ (by rw [hcell]; simp; omega)
          have hmax : IntKind.i64.max = 9223372036854775807 := rfl
          have h63 : ¬ (9223372036854775807 : Int) < (m : Int) := by omega
          have hneg : ¬ (m : Int) < 0 := by omega
          have hm0 : m ≠ 0 := by omega
          have hrun : (Builtin.unsafeString_ #[pt, it] ty #[ρ p, ρ n]).run P w = .ok (.string ⟨bs.toArray⟩) (w.freeze ⟨b, 0, none⟩ m) := by
            rw [hv, hk]
            have hdef : Builtin.unsafeString_ #[pt, it] ty #[.pointer (some ⟨b, 0, none⟩), .int k (m : Int)] =
                (do
                  let n ← asInt (.int k (m : Int))
                  if n < 0 then runtimePanic (.error "unsafe.String: len out of range")
                  if n > IntKind.i64.max then unsupported (.unsafePointer "String: a length above the largest int")
                  if n = 0 then pure (.string .empty)
                  else if ← variablesAt ⟨b, 0, none⟩ (← elemOf pt) n.toNat then do
                    let s ← loadBytes ⟨b, 0, none⟩ .empty n.toNat
                    Go.freeze ⟨b, 0, none⟩ n.toNat
                    pure (.string s)
                  else unsupported (.unsafePointer "String: not so many bytes at ptr")) := rfl
            rw [hdef]
            simp [asInt, asIntOf, hmax, h63, hneg, hm0, variablesAt, shape_of t4, elemOf, run_underlying' hp, hlies, hload]
          refine ⟨_, _, G, hrun, Gh.le.refl _, ?_, .lit rfl⟩
          refine hW.freeze t2 (fun o' x hx' hb' => ?_)
          have ho : o' = o := hW.sep o' o x _ b hx' hg hb' (by simp [blkOf, t1])
          subst ho
          rw [hg] at hx'
          cases hx'
          refine ⟨b, m, c, C, _, t1, t2, t3, freeze_at w b 0 m hm0 t4, t5, t6, fun k hk hk' => ?_, fun m' hm' => ?_⟩
          · split
            · simp; omega
            · rename_i hne'
              have hne' : ¬ fr.1 = fr.2 := by simpa using hne'
              have := q2.resolve_left hne'
              simp
              omega
          · cases hm'
            refine ⟨rfl, .inr ?_⟩
            split
            · simp
            · rename_i hne'
              have hne' : ¬ fr.1 = fr.2 := by simpa using hne'
              have := q2.resolve_left hne'
              simp
              omega
      · cases h
    · cases h
  · cases h

end Go.Abs
