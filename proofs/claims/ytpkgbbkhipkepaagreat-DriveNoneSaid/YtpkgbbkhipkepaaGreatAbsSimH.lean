/-
  EACH OPERATION OF THE ABSTRACT MACHINE STANDS FOR THE MODEL's: part H: append.
-/
import Derived.Test.YtpkgbbkhipkepaaGreatAbsSimG
namespace Go.Abs
open Go.RowKit

variable {P : Program} {n0 : Fr P} {w0 : World} {G : Gh} {H H' : AH} {w : World} {σ : List AV} {ρ : Operand → Value} {v : AV}

theorem growBy_le (need : Nat) : ∀ (r c : Nat), c ≤ need + (need + 768) / 4 → Builtin.growBy need r c ≤ need + (need + 768) / 4 := by
  intro r
  induction r with
  | zero => intro c h; exact h
  | succ r ih =>
    intro c h
    simp only [Builtin.growBy]
    split
    · exact h
    · exact ih _ (by omega)

theorem nextcap_le {need old : Nat} (h : old < need) : Builtin.nextslicecap need old ≤ 2 * need + 192 := by
  unfold Builtin.nextslicecap
  split
  · omega
  · split
    · omega
    · have := growBy_le need 4 old (by omega)
      omega

theorem room_next {need old bytes : Nat} (h : old < need) (hr : okRoom need bytes = true) : Builtin.nextslicecap need old * bytes ≤ 2 ^ 48 := by
  obtain ⟨h1, h2, h3, h4⟩ := okRoom_spec hr
  have := nextcap_le h
  have e1 : Builtin.nextslicecap need old * bytes ≤ (2 * need + 192) * bytes := Nat.mul_le_mul_right _ this
  have e2 : (2 * need + 192) * bytes = 2 * (need * bytes) + 192 * bytes := by rw [Nat.add_mul, Nat.mul_assoc]
  omega

/-- The cells of a slice are loaded. -/
theorem run_cells {ad : Addr} {us : List Value} {n : Nat} (hn : us.length = n) (h : ∀ i (h : i < us.length), ad.spot = none ∧ w.cell? ⟨ad.block, ad.off + i, none⟩ = some us[i]) : (loadCells ad n).run P w = .ok us.toArray w := by
  have := run_loadCells_list (P := P) (w := w) ad us (fun j v hv => by
    obtain ⟨hj, rfl⟩ := List.getElem?_eq_some_iff.1 hv
    obtain ⟨e2, e3⟩ := h j hj
    have : ad.add j = ⟨ad.block, ad.off + j, none⟩ := by
      obtain ⟨b, o, sp⟩ := ad
      simp at e2
      subst e2
      exact addr_add _ _ _
    rw [this]
    exact e3)
  rw [hn] at this
  exact this

/-- The items that are appended or copied. -/
theorem items_run {x : AV} {vx : Value} {ys : List AV} {sz : Nat} (hW : WRel n0 w0 G H w) (hx : Rep G x vx) (h : items H x = some ys) (hs : ∀ y ∈ ys, y.cells.length = sz) :
    ∃ us, Reps G (flat ys) us ∧ ∀ w', w'.heap = w.heap → (Builtin.lenOf vx).run P w' = .ok ys.length w' ∧ (Builtin.firstCells sz ys.length vx).run P w' = .ok us.toArray w' ∧
      (∀ m, m ≤ ys.length → (Builtin.firstCells sz m vx).run P w' = .ok (us.take (m * sz)).toArray w') := by
  unfold items at h
  split at h
  · rename_i s
    cases h
    have hv := (hx.lit').1
    subst hv
    have hflat : ∀ l : List UInt8, flat (l.map fun b => (AV.int .u8 (b.toNat : Int))) = l.map fun b => (AV.int .u8 (b.toNat : Int)) := by
      intro l
      induction l with
      | nil => rfl
      | cons a l ih =>
        simp only [flat] at ih
        simp only [List.map_cons, flat, List.flatMap_cons, ih]
        rfl
    have hsz1 : s.data.toList = [] ∨ sz = 1 := by
      cases hl : s.data.toList with
      | nil => exact .inl rfl
      | cons a l =>
        right
        have := hs (.int .u8 a.toNat) (by rw [hl]; simp)
        simpa [AV.cells] using this.symm
    have hext : ∀ m w, (Builtin.firstCells sz m (.string s)).run P w = .ok (((s.data.toList.map fun b => Value.int .u8 (b.toNat : Int)).take m).toArray) w := by
      intro m w
      simp only [Builtin.firstCells, Sem.run_pure]
      congr 1
      apply Array.ext'
      simp [ByteArray.data_extract]
    refine ⟨s.data.toList.map fun b => .int .u8 (b.toNat : Int), ?_, fun w' _ => ⟨?_, ?_, ?_⟩⟩
    · rw [hflat]
      refine ⟨by simp, fun i h1 h2 => ?_⟩
      simp only [List.getElem_map]
      exact .lit rfl
    · simp [Builtin.lenOf]
    · rw [hext]
      congr 2
      apply List.take_of_length_le
      simp
    · intro m hm
      rw [hext]
      rcases hsz1 with h0 | h0
      · simp [h0]
      · rw [h0]; simp
  · obtain ⟨a, n, cap, us, rfl, h1, h2, h3, h4⟩ := elems_cells hW hx h
    have hl : us.length = ys.length * sz := by rw [← h2.1, flat_len _ hs]
    subst h1
    have hcell : ∀ w' : World, w'.heap = w.heap → ∀ a, w'.cell? a = w.cell? a := by
      intro w' hw' a
      unfold World.cell?
      rw [hw']
    refine ⟨us, h2, fun w' hw' => ⟨rfl, ?_, ?_⟩⟩
    · cases a with
      | none =>
        have := h3 rfl
        subst this
        have : us = [] := by simpa using hl
        subst this
        rfl
      | some ad =>
        refine run_cells hl (fun i hi => ?_)
        obtain ⟨ad', e1, e2, e3⟩ := h4 i hi
        cases e1
        exact ⟨e2, (hcell w' hw' _).trans e3⟩
    · intro m hm
      cases a with
      | none =>
        have := h3 rfl
        subst this
        have : us = [] := by simpa using hl
        subst this
        have : m = 0 := by simpa using hm
        subst this
        simp [Builtin.firstCells]
      | some ad =>
        have hmul : m * sz ≤ ys.length * sz := Nat.mul_le_mul_right _ hm
        refine run_cells (by simp; omega) (fun i hi => ?_)
        obtain ⟨ad', e1, e2, e3⟩ := h4 i (by simp at hi; omega)
        cases e1
        simp only [List.getElem_take]
        exact ⟨e2, (hcell w' hw' _).trans e3⟩

/-- append makes a new row. -/
theorem run_append_new {t u e ty : TypeId} {d : TypeDesc} {i : TypeInfo} {a : Option Addr} {sLen sCap n : Nat} {vx : Value} {old new : List Value} {z : Value} (ht : P.underlying t = some (.slice e)) (hu : P.underlying u = some d) (hd : ∀ k, d ≠ .int k) (hi : P.info? e = some i)
    (hz : (zeroValue e).run P w.drew = .ok z w.drew) (hlen : (Builtin.lenOf vx).run P w = .ok n w) (hbig : sCap < sLen + n) (hr : okRoom (sLen + n) i.bytes = true)
    (hold : (Builtin.firstCells i.size sLen (.slice a sLen sCap)).run P w.drew = .ok old.toArray w.drew) (hnew : (Builtin.firstCells i.size n vx).run P w.drew = .ok new.toArray w.drew) :
    ∃ (cap : Nat) (rest : List Value), sLen + n ≤ cap ∧ rest.length = (cap - (sLen + n)) * z.cells.size ∧
      (Builtin.append_ #[t, u] ty #[.slice a sLen sCap, vx]).run P w = .ok (.slice (some ⟨w.heap.size, 0, none⟩) (sLen + n) cap) (w.drew.alloc (.cells (old ++ new ++ rest).toArray e)) := by
  obtain ⟨r1, r2, r3, r4⟩ := okRoom_spec hr
  have hnext := room_next hbig hr
  let q := Question.appendCap (sLen + n) sCap e
  refine ⟨q.cut (w.tape w.drawn q), (Builtin.zeroCells z.cells (q.cut (w.tape w.drawn q) - (sLen + n))).toList, ?_, by simp [Builtin.zeroCells], ?_⟩
  · show sLen + n ≤ (sLen + n) + _ % _
    omega
  · have e1 : (#[t, u] : Array TypeId)[0]? = some t := rfl
    have e2 : (#[Value.slice a sLen sCap, vx] : Array Value)[0]? = some (.slice a sLen sCap) := rfl
    have e3 : (#[Value.slice a sLen sCap, vx] : Array Value)[1]? = some vx := rfl
    have e4 : (#[t, u] : Array TypeId)[1]? = some u := rfl
    have hsz : (sizeOf e).run P w = .ok i.size w := run_sizeOf' (by simp [sizeN, hi]) w
    have hn1 : ¬ (sLen + n ≤ sCap) := by omega
    have hb0 : i.bytes ≠ 0 := by omega
    have hn3 : ¬ (Builtin.nextslicecap (sLen + n) sCap * i.bytes > 2 ^ 48) := by omega
    have hch : (choose (Question.appendCap (sLen + n) sCap e)).run P w = .ok (q.cut (w.tape w.drawn q)) w.drew := by
      simp only [choose, Sem.run]
      rfl
    simp only [Builtin.append_, e1, e2, e3, e4, Sem.run_bind, run_underlying' ht, Result.andThen_ok, hsz, run_underlying' hu, Sem.run_pure]
    simp only [Bool.false_eq_true, if_false, Sem.run_bind, hlen, Result.andThen_ok, hn1, run_typeInfo' hi, false_or, hb0, and_false, hn3, hch, run_askRoom, hold, Bool.not_false, if_true, hnew, hz, newRow, run_newObj, Sem.run_pure]
    congr 1
    show w.drew.alloc _ = w.drew.alloc _
    congr 2
    simp [Builtin.zeroCells]

/-- append writes in place. -/
theorem run_append_here {t u e ty : TypeId} {d : TypeDesc} {i : TypeInfo} {b k sLen sCap n : Nat} {vx : Value} {new : List Value} (ht : P.underlying t = some (.slice e)) (hu : P.underlying u = some d) (hd : ∀ k, d ≠ .int k) (hi : P.info? e = some i)
    (hlen : (Builtin.lenOf vx).run P w = .ok n w) (hfit : sLen + n ≤ sCap) (hnew : (Builtin.firstCells i.size n vx).run P w = .ok new.toArray w) {w' : World}
    (hst : (storeCells ⟨b, k + sLen * i.size, none⟩ new).run P w = .ok () w') :
    (Builtin.append_ #[t, u] ty #[.slice (some ⟨b, k, none⟩) sLen sCap, vx]).run P w = .ok (.slice (some ⟨b, k, none⟩) (sLen + n) sCap) w' := by
  have e1 : (#[t, u] : Array TypeId)[0]? = some t := rfl
  have e2 : (#[Value.slice (some ⟨b, k, none⟩) sLen sCap, vx] : Array Value)[0]? = some (.slice (some ⟨b, k, none⟩) sLen sCap) := rfl
  have e3 : (#[Value.slice (some ⟨b, k, none⟩) sLen sCap, vx] : Array Value)[1]? = some vx := rfl
  have e4 : (#[t, u] : Array TypeId)[1]? = some u := rfl
  have hsz : (sizeOf e).run P w = .ok i.size w := run_sizeOf' (by simp [sizeN, hi]) w
  simp only [Builtin.append_, e1, e2, e3, e4, Sem.run_bind, run_underlying' ht, Result.andThen_ok, hsz, run_underlying' hu, Sem.run_pure]
  simp only [Bool.false_eq_true, if_false, Sem.run_bind, hlen, Result.andThen_ok, hfit, if_true, Bool.not_false, hnew, addr_add, hst, Sem.run_pure]

/-- append of nothing. -/
theorem run_append_none {t u e ty : TypeId} {d : TypeDesc} {i : TypeInfo} {a : Option Addr} {sLen sCap : Nat} {vx : Value} (ht : P.underlying t = some (.slice e)) (hu : P.underlying u = some d) (hd : ∀ k, d ≠ .int k) (hi : P.info? e = some i)
    (hlen : (Builtin.lenOf vx).run P w = .ok 0 w) (hfit : sLen ≤ sCap) (hnew : (Builtin.firstCells i.size 0 vx).run P w = .ok #[] w) :
    (Builtin.append_ #[t, u] ty #[.slice a sLen sCap, vx]).run P w = .ok (.slice a sLen sCap) w := by
  have e1 : (#[t, u] : Array TypeId)[0]? = some t := rfl
  have e2 : (#[Value.slice a sLen sCap, vx] : Array Value)[0]? = some (.slice a sLen sCap) := rfl
  have e3 : (#[Value.slice a sLen sCap, vx] : Array Value)[1]? = some vx := rfl
  have e4 : (#[t, u] : Array TypeId)[1]? = some u := rfl
  have hsz : (sizeOf e).run P w = .ok i.size w := run_sizeOf' (by simp [sizeN, hi]) w
  simp only [Builtin.append_, e1, e2, e3, e4, Sem.run_bind, run_underlying' ht, Result.andThen_ok, hsz, run_underlying' hu, Sem.run_pure]
  simp only [Bool.false_eq_true, if_false, Sem.run_bind, hlen, Result.andThen_ok, Nat.add_zero, hfit, if_true, Bool.not_false, hnew]
  cases a with
  | none => rfl
  | some a => rfl

end Go.Abs
