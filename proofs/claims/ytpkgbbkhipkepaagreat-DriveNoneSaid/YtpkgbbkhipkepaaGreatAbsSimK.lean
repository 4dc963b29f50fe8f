/-
  EACH OPERATION OF THE ABSTRACT MACHINE STANDS FOR THE MODEL's: part K: append of zeros, copy, clear, bytes of a text, unsafe.
-/
import Derived.Test.YtpkgbbkhipkepaaGreatAbsSimJ
import Derived.Lib.UnsafeStr
namespace Go.Abs
open Go.RowKit

variable {P : Program} {n0 : Fr P} {w0 : World} {G : Gh} {H H' : AH} {w : World} {σ : List AV} {ρ : Operand → Value} {v : AV}

theorem full_run {sz : Nat} {x : AV} {vx : Value} {xs : List AV} (hW : WRel n0 w0 G H w) (hx : Rep G x vx) (h : fullOf sz x = some xs) :
    ∃ a us, vx = .slice a xs.length xs.length ∧ Reps G (flat xs) us ∧ us.length = xs.length * sz ∧ (∀ w', w'.heap = w.heap → (Builtin.firstCells sz xs.length vx).run P w' = .ok us.toArray w') := by
  unfold fullOf at h
  split at h
  · cases h
    exact ⟨none, [], (hx.lit').1, Reps.nil, by simp, fun w' _ => by rw [(hx.lit').1]; rfl⟩
  · rename_i sz' ys
    split at h
    · rename_i he
      cases h
      subst he
      obtain ⟨b, k, cap, us, rfl, h1, h2, h3, h4, h5⟩ := hx.sl'
      simp only [tkOk] at h5
      subst h5
      have hl : us.length = xs.length * sz' := by rw [← h1.1, flat_len _ h2]
      refine ⟨_, us, rfl, h1, hl, fun w' hw' => run_cells hl (fun i hi => ⟨rfl, ?_⟩)⟩
      have := hW.mem _ _ _ (h3 i hi)
      unfold World.cell? at *
      rw [hw']
      exact this
    · cases h
  · rename_i sz' ys
    split at h
    · rename_i he
      cases h
      subst he
      obtain ⟨b, k, cap, us, rfl, h1, h2, h3, h4, h5⟩ := hx.sl'
      simp only [tkOk] at h5
      obtain ⟨h5, _⟩ := h5
      subst h5
      have hl : us.length = xs.length * sz' := by rw [← h1.1, flat_len _ h2]
      refine ⟨_, us, rfl, h1, hl, fun w' hw' => run_cells hl (fun i hi => ⟨rfl, ?_⟩)⟩
      have := hW.mem _ _ _ (h3 i hi)
      unfold World.cell? at *
      rw [hw']
      exact this
    · cases h
  · cases h

theorem simv_appendZ {t u e ty : TypeId} {i : TypeInfo} {kk : IntKind} {z : List AV} {x n : Operand} (ht : P.underlying t = some (.slice e)) (hu : P.underlying u = some (.int kk)) (hi : P.info? e = some i) (hz : zeroC P e = some z)
    (hx : Rep G (evalO σ x) (ρ x)) (hn : Rep G (evalO σ n) (ρ n)) (hW : WRel n0 w0 G H w) (hF : Free n0 G H) (h : aop σ H (.appendZ e i.size i.bytes z x n) = some (v, H')) : SimV P (Builtin.append_ #[t, u] ty #[ρ x, ρ n]) w n0 w0 G v H' := by
  simp only [aop] at h
  split at h
  · rename_i m xs hm hxs
    split at h
    · rename_i hc
      obtain ⟨hzl, hs1, hm1, hr⟩ := hc
      cases h
      obtain ⟨a, us, hv, hru, hlu, hfc⟩ := full_run (P := P) hW hx hxs
      obtain ⟨k, hk⟩ := natOf_rep hm hn
      obtain ⟨zv, hzv, hzr⟩ := zeroC_run (G := G) hz w.drew
      have hzs : zv.cells.size = i.size := by have := hzr.1; simp at this; omega
      obtain ⟨r1, r2, r3, r4⟩ := okRoom_spec hr
      have hbig : xs.length < xs.length + m := by omega
      have hnext := room_next hbig hr
      let q := Question.appendCap (xs.length + m) xs.length e
      let cap := q.cut (w.tape w.drawn q)
      have hcap : xs.length + m ≤ cap := by
        show xs.length + m ≤ (xs.length + m) + _ % _
        omega
      have hch : (choose (Question.appendCap (xs.length + m) xs.length e)).run P w = .ok cap w.drew := by
        simp only [choose, Sem.run]
        rfl
      have hrun : (Builtin.append_ #[t, u] ty #[ρ x, ρ n]).run P w = .ok (.slice (some ⟨w.heap.size, 0, none⟩) (xs.length + m) cap)
          (w.drew.alloc (.cells (us.toArray ++ Builtin.zeroCells zv.cells m ++ Builtin.zeroCells zv.cells (cap - (xs.length + m))) e)) := by
        rw [hv, hk]
        have e1 : (#[t, u] : Array TypeId)[0]? = some t := rfl
        have e2 : (#[Value.slice a xs.length xs.length, Value.int k (m : Int)] : Array Value)[0]? = some (.slice a xs.length xs.length) := rfl
        have e3 : (#[Value.slice a xs.length xs.length, Value.int k (m : Int)] : Array Value)[1]? = some (.int k (m : Int)) := rfl
        have e4 : (#[t, u] : Array TypeId)[1]? = some u := rfl
        have hsz : (sizeOf e).run P w = .ok i.size w := run_sizeOf' (by simp [sizeN, hi]) w
        have hmw : IntKind.i64.wrap (m : Int) = m := wrap_nat (by omega)
        have hneg : ¬ ((m : Int) < 0) := by omega
        have hmb : m * i.bytes ≤ (xs.length + m) * i.bytes := Nat.mul_le_mul_right _ (by omega)
        have hbig2 : ¬ ((m : Int) * (i.bytes : Int) > 2 ^ 48) := by
          have : ((m : Int) * (i.bytes : Int)) = ((m * i.bytes : Nat) : Int) := by simp
          rw [this]; omega
        have hn1 : ¬ (xs.length + m ≤ xs.length) := by omega
        have hb0 : i.bytes ≠ 0 := by omega
        have hmax : ¬ ((((xs.length + m : Nat)) : Int) > IntKind.i64.max) := by
          have : IntKind.i64.max = 9223372036854775807 := rfl
          rw [this]; omega
        have hn3 : ¬ (Builtin.nextslicecap (xs.length + m) xs.length * i.bytes > 2 ^ 48) := by omega
        have hnz : ¬ (m * i.size = 0) := by
          intro h0
          rcases Nat.mul_eq_zero.1 h0 with h | h <;> omega
        have hold := hfc w.drew rfl
        rw [hv] at hold
        simp only [Builtin.append_, e1, e2, e3, e4, Sem.run_bind, run_underlying' ht, Result.andThen_ok, hsz, run_underlying' hu, Sem.run_pure, if_true, asInt, asIntOf, hmw, hneg, if_false, run_typeInfo' hi, hbig2, Int.toNat_natCast, hn1, hmax, false_and, hn3, hch, run_askRoom, hold,
          Bool.not_true, Bool.false_eq_true, hnz, hzv, newRow, run_newObj]
        rfl
      have hul : us.length + m * i.size + (cap - (xs.length + m)) * i.size = cap * i.size := by
        rw [hlu, ← Nat.add_mul, ← Nat.add_mul]; congr 1; omega
      have hCs : (us.toArray ++ Builtin.zeroCells zv.cells m ++ Builtin.zeroCells zv.cells (cap - (xs.length + m))).size = cap * i.size := by
        simp only [Array.size_append, List.size_toArray, Builtin.zeroCells, Array.size_map, Array.size_range, hzs]
        exact hul
      have hreps := flatten_replicate_reps hzr (by omega) m
      rw [hzl] at hreps
      have hall : Reps G (flat xs ++ (List.replicate m z).flatten) (us ++ (Builtin.zeroCells zv.cells m).toList) := by
        refine hru.append ?_
        simp only [Builtin.zeroCells, hzs]
        rw [hzs] at hreps
        exact hreps
      have hzl2 : (Builtin.zeroCells zv.cells m).toList.length = m * i.size := by simp [Builtin.zeroCells, hzs]
      have hfl : (flat xs ++ (List.replicate m z).flatten).length = (xs.length + m) * i.size := by
        rw [hall.1, List.length_append, hlu, hzl2, Nat.add_mul]
      have hmul : (xs.length + m) * i.size ≤ cap * i.size := Nat.mul_le_mul_right _ hcap
      obtain ⟨g1, g2⟩ := hW.drew.push_cells hF (cs := flat xs ++ (List.replicate m z).flatten) (C := us.toArray ++ Builtin.zeroCells zv.cells m ++ Builtin.zeroCells zv.cells (cap - (xs.length + m))) (ty := e) (by omega) (fun j hj hj' => by
        have := hall.2 j hj (by rw [← hall.1]; exact hj)
        have e1 : (us.toArray ++ Builtin.zeroCells zv.cells m ++ Builtin.zeroCells zv.cells (cap - (xs.length + m)))[j] = (us ++ (Builtin.zeroCells zv.cells m).toList)[j]'(by rw [← hall.1]; exact hj) := by
          have h1 : j < (us.toArray ++ Builtin.zeroCells zv.cells m).size := by
            have hj2 := hj
            rw [hfl, Nat.add_mul] at hj2
            have hz3 : (Builtin.zeroCells zv.cells m).size = m * i.size := by simp [Builtin.zeroCells, hzs]
            simp only [Array.size_append, List.size_toArray]
            rw [hz3, hlu]
            exact hj2
          rw [Array.getElem_append_left h1]
          rw [← Array.getElem_toList]
          simp only [Array.toList_append]
        rw [e1]
        exact this)
      refine ⟨_, _, _, hrun, g1, g2, ?_⟩
      have := Rep.rs (G := G.withLoc H.n 0 (w.drew.heap.size, 0, (us.toArray ++ Builtin.zeroCells zv.cells m ++ Builtin.zeroCells zv.cells (cap - (xs.length + m))).size)) (o := H.n) (g := 0) (sz := i.size) (off := 0) (len := xs.length + m) (b := w.heap.size) (s := 0) (e := (us.toArray ++ Builtin.zeroCells zv.cells m ++ Builtin.zeroCells zv.cells (cap - (xs.length + m))).size) (cap := cap) (by simp [Gh.withLoc]) hcap (by rw [hCs]; simp)
      simpa using this
    · cases h
  · cases h

theorem simv_copy {t e ty : TypeId} {ts : Array TypeId} {x y : Operand} {sz0 : Nat} (ht : P.underlying t = some (.slice e)) (h0 : ts[0]? = some t) (hs : sizeN P e = some sz0) (hx : Rep G (evalO σ x) (ρ x)) (hy : Rep G (evalO σ y) (ρ y)) (hW : WRel n0 w0 G H w)
    (h : aop σ H (.copy sz0 x y) = some (v, H')) : SimV P (Builtin.copy_ ts ty #[ρ x, ρ y]) w n0 w0 G v H' := by
  simp only [aop] at h
  split at h
  · rename_i o g sz off len ys hxe hys
    split at h
    · rename_i hc
      obtain ⟨hlen, hsz1, hall, hsz0⟩ := hc
      have hsz0' := hsz0.symm
      subst hsz0'
      split at h
      · rename_i H2 hst
        cases h
        rw [hxe] at hx
        have hall' : ∀ y ∈ ys, y.cells.length = sz := fun y hy => by simpa using List.all_eq_true.1 hall y hy
        obtain ⟨us, i3, i0⟩ := items_run (P := P) hW hy hys hall'
        obtain ⟨i1, i2, i4⟩ := i0 w rfl
        have hobj : ∃ ty fz cs, H.get o = some (.cells ty g fz cs) := by
          unfold storeTo at hst
          simp only at hst
          split at hst
          · rename_i hg
            split at hst
            · rename_i hc
              obtain ⟨rfl, _⟩ := hc
              exact ⟨_, _, _, hg⟩
            · cases hst
          · cases hst
        obtain ⟨ty', fz, cs, hg⟩ := hobj
        obtain ⟨b, s, e', C, fr, l1, l2, l3, l4, l5, l6, l7, l8, l9⟩ := hW.obj o _ hg
        have hft : flat (ys.take (Nat.min ys.length len)) = (flat ys).take (Nat.min ys.length len * sz) := flat_take _ _ hall'
        have hvs : Reps G (flat (ys.take (Nat.min ys.length len))) (us.take (Nat.min ys.length len * sz)) := by rw [hft]; exact i3.take _
        obtain ⟨ad, w', e1, e2, e3, e4⟩ := sim_storeTo P hW hst (Rep.ptr (k := off * sz) l1) hvs
        cases e1
        have hle : Nat.min ys.length len ≤ ys.length := Nat.min_le_left _ _
        have val : ∃ ad cap, ρ x = .slice (some ad) len cap ∧ (ad = ⟨b, s + off * sz, none⟩ ∨ len = 0) := by
          generalize ρ x = vx at hx
          cases hx with
          | rs k1 k2 k3 => rw [l1] at k1; cases k1; exact ⟨_, _, rfl, .inl rfl⟩
          | rs0 => exact ⟨_, _, rfl, .inr rfl⟩
        obtain ⟨ad, cap, hv, hval⟩ := val
        have hstore : (storeCells ad (us.take (Nat.min ys.length len * sz))).run P w = .ok () w' := by
          rcases hval with rfl | h0
          · exact e3
          · subst h0
            have : us.take (Nat.min ys.length 0 * sz) = [] := by simp
            rw [this] at e3 ⊢
            have : (storeCells ⟨b, s + off * sz, none⟩ []).run P w = .ok () w := rfl
            rw [this] at e3
            exact e3
        refine ⟨_, w', G, ?_, Gh.le.refl _, e4, .lit rfl⟩
        rw [hv]
        have q1 : (#[Value.slice (some ad) len cap, ρ y] : Array Value)[0]? = some (.slice (some ad) len cap) := rfl
        have q2 : (#[Value.slice (some ad) len cap, ρ y] : Array Value)[1]? = some (ρ y) := rfl
        simp only [Builtin.copy_, h0, q1, q2, Sem.run_bind, run_underlying' ht, Result.andThen_ok, i1, run_sizeOf' hs, i4 _ hle, hstore, Sem.run_pure]
        rfl
      · cases h
    · cases h
  · cases h

theorem simv_clear {t e ty : TypeId} {ts : Array TypeId} {sz : Nat} {z : List AV} {x : Operand} (ht : P.underlying t = some (.slice e)) (h0 : ts[0]? = some t) (hz : zeroC P e = some z) (hs1 : 1 ≤ sz) (hx : Rep G (evalO σ x) (ρ x)) (hW : WRel n0 w0 G H w)
    (h : aop σ H (.clear sz z x) = some (v, H')) : SimV P (Builtin.clear_ ts ty #[ρ x]) w n0 w0 G v H' := by
  simp only [aop] at h
  split at h
  · rename_i hxe
    rw [hxe] at hx
    cases h
    refine .same hW ?_ rep_und
    rw [(hx.lit').1]
    have q1 : (#[Value.slice none 0 0] : Array Value)[0]? = some (.slice none 0 0) := rfl
    simp only [Builtin.clear_, h0, q1, Sem.run_bind, run_underlying' ht, Result.andThen_ok, Sem.run_pure]
    rfl
  · rename_i o g sz' off len hxe
    rw [hxe] at hx
    split at h
    · rename_i hc
      obtain ⟨rfl, hzl⟩ := hc
      have val : ∃ ad cap, ρ x = .slice (some ad) len cap ∧ ((∃ b s e, G.loc o g = some (b, s, e) ∧ ad = ⟨b, s + off * sz, none⟩) ∨ len = 0) := by
        generalize ρ x = vx at hx
        cases hx with
        | rs k1 k2 k3 => exact ⟨_, _, rfl, .inl ⟨_, _, _, k1, rfl⟩⟩
        | rs0 => exact ⟨_, _, rfl, .inr rfl⟩
      obtain ⟨ad, cap, hv, hval⟩ := val
      rw [hv]
      have q1 : (#[Value.slice (some ad) len cap] : Array Value)[0]? = some (.slice (some ad) len cap) := rfl
      split at h
      · rename_i hl0
        subst hl0
        cases h
        refine .same hW ?_ rep_und
        simp only [Builtin.clear_, h0, q1, Sem.run_bind, run_underlying' ht, Result.andThen_ok, Sem.run_pure]
        rfl
      · rename_i hl0
        obtain ⟨m, rfl⟩ : ∃ m, len = m + 1 := ⟨len - 1, by omega⟩
        split at h
        · rename_i H2 hst
          cases h
          rcases hval with ⟨b, s, e', hloc, rfl⟩ | h0'
          · obtain ⟨zv, hzv, hzr⟩ := zeroC_run (G := G) hz w
            have hzs : zv.cells.size = z.length := by have := hzr.1; simp at this; omega
            have hreps := flatten_replicate_reps hzr (by omega) (m + 1)
            obtain ⟨ad, w', e1, e2, e3, e4⟩ := sim_storeTo P hW hst (Rep.ptr (k := off * sz) hloc) hreps
            cases e1
            refine ⟨_, w', G, ?_, Gh.le.refl _, e4, rep_und⟩
            have : (Builtin.zeroCells zv.cells (m + 1)) = (Array.range ((m + 1) * z.length)).map (zv.cells[· % zv.cells.size]!) := by
              simp only [Builtin.zeroCells, hzs]
            simp only [Builtin.clear_, h0, q1, Sem.run_bind, run_underlying' ht, Result.andThen_ok, Sem.run_pure, hzv, this, e3]
            rfl
          · omega
        · cases h
    · cases h
  · cases h

theorem u8_reps (l : List UInt8) : Reps G (l.map fun b => (AV.int .u8 (b.toNat : Int))) (l.map fun b => (Value.int .u8 (b.toNat : Int))) :=
  ⟨by simp, fun i h1 h2 => by simp only [List.getElem_map]; exact .lit rfl⟩

theorem u8_flat : ∀ l : List UInt8, flat (l.map fun b => (AV.int .u8 (b.toNat : Int))) = l.map fun b => (AV.int .u8 (b.toNat : Int)) := by
  intro l
  induction l with
  | nil => rfl
  | cons a l ih =>
    simp only [flat] at ih
    simp only [List.map_cons, flat, List.flatMap_cons, ih]
    rfl

theorem simv_convSB {s d el : TypeId} {x : Operand} (hs : P.underlying s = some .string) (hd : P.underlying d = some (.slice el)) (hel : P.underlying el = some (.int .u8)) (hx : Rep G (evalO σ x) (ρ x)) (hW : WRel n0 w0 G H w) (hF : Free n0 G H)
    (h : aop σ H (.convSB el x) = some (v, H')) : SimV P (convert s d (ρ x)) w n0 w0 G v H' := by
  simp only [aop] at h
  split at h
  · rename_i t hxe
    rw [hxe] at hx
    split at h
    · cases h
      rw [(hx.lit').1]
      let q := Question.appendCap t.size 0 el
      let cap := q.cut (w.tape w.drawn q)
      have hcap : t.size ≤ cap := by
        show t.size ≤ t.size + _ % _
        omega
      have hch : (choose (Question.appendCap t.size 0 el)).run P w = .ok cap w.drew := by
        simp only [choose, Sem.run]
        rfl
      let C : Array Value := (t.data.map fun b => Value.int .u8 b.toNat) ++ Array.replicate (cap - t.size) (.int .u8 0)
      have hts : t.data.size = t.size := rfl
      have hC : C.size = cap := by simp only [C, Array.size_append, Array.size_map, Array.size_replicate, hts]; omega
      have hsh : (w.drew.alloc (.cells C el)).shape? w.heap.size = some (el, C.size) := by
        unfold World.shape?
        have : (w.drew.alloc (.cells C el)).heap[w.heap.size]? = some (.cells C el) := heap_alloc_new w.drew _
        rw [this]
      have hrun : (convert s d (.string t)).run P w = .ok (.slice (some ⟨w.heap.size, 0, none⟩) t.size cap) ((w.drew.alloc (.cells C el)).freeze ⟨w.heap.size, C.size, none⟩ 1) := by
        simp only [convert, Sem.run_bind, run_underlying' hs, run_underlying' hd, Result.andThen_ok, run_underlying' hel, Conv.stringToBytes, hch, newRow, run_newObj, Sem.run_pure]
        show (Result.andThen ((markStringish ⟨w.heap.size, 0, none⟩).run P (w.drew.alloc (.cells C el))) _) = _
        simp only [markStringish, Sem.run_bind, run_shape, hsh, Result.andThen_ok]
        rfl
      have hfz := freeze_at (w.drew.alloc (.cells C el)) w.heap.size C.size 1 (by omega) (heap_alloc_new w.drew _)
      obtain ⟨g1, g2⟩ := hW.drew.push_tok hF C el t.size (by omega) (w' := (w.drew.alloc (.cells C el)).freeze ⟨w.heap.size, C.size, none⟩ 1) (Lib.below_freeze (below_alloc w.drew _) (Nat.le_refl _) _) hfz (by
        intro k hk hk'
        simp
        omega) none (by intro x hx; cases hx)
      refine ⟨_, _, _, hrun, g1, g2, ?_⟩
      have hl : (t.data.toList.map fun b => (Value.int .u8 (b.toNat : Int))).length = t.size := by simp
      have := Rep.sl (G := (G.withMem w.drew.heap.size t.size C).withTk H.n (w.drew.heap.size, t.size, C.size)) (t := .t H.n) (sz := 1) (xs := t.data.toList.map fun b => (AV.int .u8 (b.toNat : Int))) (us := t.data.toList.map fun b => (Value.int .u8 (b.toNat : Int))) (b := w.heap.size) (k := 0) (cap := cap)
        (by rw [u8_flat]; simp) (fun x hx => by
          obtain ⟨b, _, rfl⟩ := List.mem_map.1 hx
          rfl) (fun i hi hi' => by
          simp only [u8_flat]
          exact (u8_reps _).2 i (by simpa [u8_flat] using hi) hi') (fun i hi => by
          show (G.withMem w.heap.size t.size C).mem w.heap.size (0 + i) = _
          rw [hl] at hi
          simp only [Gh.withMem]
          rw [if_pos ⟨trivial, by omega⟩, Nat.zero_add]
          simp only [C]
          rw [Array.getElem?_append_left (by simp only [Array.size_map, hts]; exact hi)]
          simp [hi, hts]) (by simpa using hcap) (by
          right
          simp [Gh.withTk, hC])
      simpa using this
    · cases h
  · cases h

end Go.Abs
