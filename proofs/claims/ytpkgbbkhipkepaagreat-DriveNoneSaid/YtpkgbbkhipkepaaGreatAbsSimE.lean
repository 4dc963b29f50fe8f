/-
  EACH OPERATION OF THE ABSTRACT MACHINE STANDS FOR THE MODEL's: part E.
-/
import Derived.Test.YtpkgbbkhipkepaaGreatAbsSimD
import Derived.Laws.BytesString
import Derived.Lib.UnsafeStr
namespace Go.Abs
open Go.RowKit

variable {P : Program} {n0 : Fr P} {w0 : World} {G : Gh} {H H' : AH} {w : World} {σ : List AV} {ρ : Operand → Value} {v : AV}

theorem simv_un {op : UnOp} {x : AV} {vx : Value} (hx : Rep G x vx) (hW : WRel n0 w0 G H w) (h : aun op x = some v) : SimV P (Op.unary op vx) w n0 w0 G v H := by
  unfold aun at h
  split at h
  · rw [hx.bool']
    split at h
    · cases h; exact .same hW rfl (.lit rfl)
    · cases h
  · rw [hx.int]
    split at h
    · cases h; exact .same hW rfl (.lit rfl)
    · cases h; exact .same hW rfl (.lit rfl)
    · cases h
  · cases h

theorem simv_convInt {s d : TypeId} {k k0 : IntKind} {n : Int} {j : IntKind} (hs : P.underlying s = some (.int k0)) (hd : P.underlying d = some (.int k)) (hW : WRel n0 w0 G H w) : SimV P (convert s d (.int j n)) w n0 w0 G (.int k (k.wrap n)) H := by
  refine .same hW ?_ (.lit rfl)
  simp only [convert, Sem.run_bind, run_underlying' hs, run_underlying' hd, Result.andThen_ok]
  rfl

theorem simv_convId {s d : TypeId} {b : ByteArray} (hs : P.underlying s = some .string) (hd : P.underlying d = some .string) (hW : WRel n0 w0 G H w) : SimV P (convert s d (.string b)) w n0 w0 G (.str b) H := by
  refine .same hW ?_ (.lit rfl)
  simp only [convert, Sem.run_bind, run_underlying' hs, run_underlying' hd, Result.andThen_ok]
  rfl

/-- The cells of a slice's elements, in the world. -/
theorem elems_cells {x : AV} {vx : Value} {xs : List AV} (hW : WRel n0 w0 G H w) (hx : Rep G x vx) (h : elems H x = some xs) :
    ∃ a n cap us, vx = .slice a n cap ∧ n = xs.length ∧ Reps G (flat xs) us ∧ (a = none → xs = []) ∧ (∀ i (h : i < us.length), ∃ ad, a = some ad ∧ ad.spot = none ∧ w.cell? ⟨ad.block, ad.off + i, none⟩ = some us[i]) := by
  unfold elems at h
  split at h
  · cases h
    obtain ⟨e, _⟩ := hx.lit'
    exact ⟨none, 0, 0, [], e, rfl, Reps.nil, fun _ => rfl, fun i h => absurd h (Nat.not_lt_zero _)⟩
  · cases h
    obtain ⟨b, k, cap, us, rfl, h1, h2, h3, h4, h5⟩ := hx.sl'
    exact ⟨_, _, _, us, rfl, rfl, h1, (fun e => by cases e), fun i hi => ⟨_, rfl, rfl, hW.mem _ _ _ (h3 i hi)⟩⟩
  · rename_i o g sz off len
    split at h
    · rename_i ty g' fz cs hg
      split at h
      · rename_i hc
        cases h
        obtain ⟨rfl, hle, hone⟩ := hc
        have hmul : (off + len) * sz = off * sz + len * sz := Nat.add_mul _ _ _
        have hlen : ((cs.drop (off * sz)).take (len * sz)).length = len * sz := by simp; omega
        obtain ⟨f1, f2⟩ := chunk_flat sz len _ hlen (.inl hone)
        obtain ⟨b, s, e, C, fr, h1, h2, h3, h4, h5, h6, h7, h8⟩ := hW.obj o _ hg
        cases hx with
        | rs l1 l2 l3 =>
          rw [h1] at l1
          cases l1
          refine ⟨_, _, _, (C.toList.drop (s + off * sz)).take (len * sz), rfl, (chunk_length _ _ _).symm, ?_, (fun e => by cases e), fun i hi => ?_⟩
          · rw [f1]
            refine ⟨by simp; omega, fun i hi hi' => ?_⟩
            simp only [List.getElem_take, List.getElem_drop]
            have := h6 (off * sz + i) (by simp at hi; omega) (by simp at hi; omega)
            simpa [Nat.add_assoc] using this
          · refine ⟨_, rfl, rfl, ?_⟩
            have hi2 : i < len * sz := by simp at hi; omega
            rw [cells_cell h3, Array.getElem?_eq_getElem (show s + off * sz + i < C.size by omega)]
            simp
        | rs0 =>
          refine ⟨_, _, _, [], rfl, (chunk_length _ _ _).symm, ?_, (fun e => by cases e), fun i hi => absurd hi (Nat.not_lt_zero _)⟩
          rw [f1]
          simp
          exact Reps.nil
      · cases h
    · cases h
  · cases h

theorem toBytes_spec : ∀ (xs : List AV) (us : List Value) (bs : List UInt8), toBytes? xs = some bs → Reps G xs us → us.length = bs.length ∧ ∀ i (h : i < us.length) (h' : i < bs.length), ∃ n, us[i] = .int .u8 n ∧ bs[i] = UInt8.ofNat n.toNat := by
  intro xs
  induction xs with
  | nil =>
    intro us bs h hr
    simp only [toBytes?] at h
    cases h
    have := hr.1
    simp at this
    exact ⟨by simp [← this], fun i h h' => absurd h' (Nat.not_lt_zero _)⟩
  | cons x xs ih =>
    intro us bs h hr
    unfold toBytes? at h
    split at h
    · rename_i e; cases e
    · rename_i n r e
      cases e
      cases hb : toBytes? xs with
      | none => simp [hb] at h
      | some bs' =>
        simp [hb] at h
        subst h
        cases us with
        | nil => have := hr.1; simp at this
        | cons u us =>
          obtain ⟨h1, h2⟩ := ih us bs' hb hr.tail
          refine ⟨by simp [h1], fun i hi hi' => ?_⟩
          cases i with
          | zero => exact ⟨n, by have := hr.head.int; simpa using this, rfl⟩
          | succ i => exact h2 i (by simpa using hi) (by simpa using hi')
    · cases h

theorem toBytes_one : ∀ (xs : List AV) (bs : List UInt8), toBytes? xs = some bs → flat xs = xs := by
  intro xs
  induction xs with
  | nil => intro bs _; rfl
  | cons x xs ih =>
    intro bs h
    unfold toBytes? at h
    split at h
    · rename_i e; cases e
    · rename_i n r e
      cases e
      cases hb : toBytes? xs with
      | none => simp [hb] at h
      | some bs' =>
        have := ih bs' hb
        simp only [flat, List.flatMap_cons, AV.cells] at *
        rw [this]
        rfl
    · cases h

theorem bytes_ints : ∀ (us : List Value) (bs : List UInt8), us.length = bs.length → (∀ i (h : i < us.length) (h' : i < bs.length), ∃ n, us[i] = .int .u8 n ∧ bs[i] = UInt8.ofNat n.toNat) →
    ∃ ns : List Int, us = ns.map (Value.int .u8) ∧ bs = ns.map fun n => UInt8.ofNat n.toNat := by
  intro us
  induction us with
  | nil => intro bs h _; cases bs with
    | nil => exact ⟨[], rfl, rfl⟩
    | cons => simp at h
  | cons u us ih =>
    intro bs h hs
    cases bs with
    | nil => simp at h
    | cons b bs =>
      obtain ⟨n, e1, e2⟩ := hs 0 (by simp) (by simp)
      obtain ⟨ns, e3, e4⟩ := ih bs (by simpa using h) (fun i hi hi' => hs (i + 1) (by simpa using hi) (by simpa using hi'))
      exact ⟨n :: ns, by simp at e1; simp [e1, e3], by simp at e2; simp [e2, e4]⟩

theorem foldl_push_bytes (ns : List Int) : ∀ acc : ByteArray, ns.foldl (fun r n => r.push (UInt8.ofNat n.toNat)) acc = ⟨acc.data ++ (ns.map fun n => UInt8.ofNat n.toNat).toArray⟩ := by
  induction ns with
  | nil => intro acc; simp
  | cons n ns ih =>
    intro acc
    simp only [List.foldl_cons, ih, List.map_cons]
    simp [ByteArray.push]

theorem simv_convBS {s d el : TypeId} {x : AV} {vx : Value} {xs : List AV} {bs : List UInt8} (hs : P.underlying s = some (.slice el)) (hel : P.underlying el = some (.int .u8)) (hd : P.underlying d = some .string) (hW : WRel n0 w0 G H w) (hx : Rep G x vx)
    (he : elems H x = some xs) (hb : toBytes? xs = some bs) : SimV P (convert s d vx) w n0 w0 G (.str ⟨bs.toArray⟩) H := by
  obtain ⟨a, n, cap, us, rfl, h1, h2, h3, h4⟩ := elems_cells hW hx he
  rw [toBytes_one _ _ hb] at h2
  obtain ⟨b1, b2⟩ := toBytes_spec _ _ _ hb h2
  refine .same hW ?_ (.lit rfl)
  simp only [convert, Sem.run_bind, run_underlying' hs, run_underlying' hd, run_underlying' hel, Result.andThen_ok]
  cases a with
  | none =>
    have := h3 rfl
    subst this
    simp only [toBytes?] at hb
    cases hb
    rfl
  | some ad =>
    have hlen : us.length = n := by rw [h1, h2.1]
    have hload : (loadCells ad n).run P w = .ok us.toArray w := by
      have := run_loadCells_list (P := P) (w := w) ad us (fun j v hv => by
        obtain ⟨hj, rfl⟩ := List.getElem?_eq_some_iff.1 hv
        obtain ⟨ad', e1, e2, e3⟩ := h4 j hj
        cases e1
        have : ad.add j = ⟨ad.block, ad.off + j, none⟩ := by
          obtain ⟨b, o, sp⟩ := ad
          simp at e2
          subst e2
          exact addr_add _ _ _
        rw [this]
        exact e3)
      rw [hlen] at this
      exact this
    obtain ⟨ns, e1, e2⟩ := bytes_ints us bs b1 b2
    have := run_bytesToString (P := P) w ad n cap ns (by rw [hload, e1])
    show (Conv.bytesToString (.slice (some ad) n cap)).run P w = _
    rw [this, foldl_push_bytes, e2]
    simp

theorem simv_convSame {s el : TypeId} {sz : Nat} {xs : List AV} {vx : Value} (hs : P.underlying s = some (.slice el)) (hel : P.underlying el = some (.int .u8)) (hW : WRel n0 w0 G H w) (hx : Rep G (.sl .lit sz xs) vx) :
    SimV P (convert s s vx) w n0 w0 G (.sl .full sz xs) H := by
  obtain ⟨b, k, cap, us, rfl, h1, h2, h3, h4, h5⟩ := hx.sl'
  obtain ⟨hcap, hlt⟩ := h5
  obtain ⟨hb, hno⟩ := hW.lt b hlt
  have hno' := hno
  obtain ⟨hn, hsz⟩ := hb
  have hb' : ∃ x, w.heap[b]? = some x := ⟨w.heap[b], Array.getElem?_eq_getElem hsz⟩
  have hres : (Rep G (.sl .full sz xs) (.slice (some ⟨b, k, none⟩) xs.length cap)) := .sl h1.1 h2 h1.2 h3 h4 hcap
  refine ⟨_, (match w.shape? b with
    | some (_, n) => w.freeze ⟨b, n, none⟩ 1
    | none => w), G, ?_, Gh.le.refl _, ?_, hres⟩
  · simp only [convert, Sem.run_bind, run_underlying' hs, run_underlying' hel, Result.andThen_ok, beq_self_eq_true, markStringish, run_shape]
    cases hsh : w.shape? b with
    | none => rfl
    | some x => rfl
  · cases hsh : w.shape? b with
    | none => exact hW
    | some x => exact hW.freeze hn fun o y hy hby => absurd hby (hno o y hy)

theorem simv_mkIface {t : TypeId} {d : TypeDesc} {x : AV} {vx : Value} (ht : P.underlying t = some d) (hd : ∀ ms, d ≠ .interface ms) (hx : Rep G x vx) (hW : WRel n0 w0 G H w) : SimV P (Instr.makeInterface t vx) w n0 w0 G (.ifc t x) H := by
  refine .same hW ?_ (.ifc hx)
  simp only [Instr.makeInterface, Sem.run_bind, run_underlying' ht, Result.andThen_ok]
  cases d <;> first | rfl | exact absurd rfl (hd _)

theorem simv_mkFunc {f : FuncId} {a b : Array Operand} (ha : ∀ x ∈ a.toList, Rep G (evalO σ x) (ρ x)) (hb : ∀ x ∈ b.toList, Rep G (evalO σ x) (ρ x)) (hW : WRel n0 w0 G H w) :
    SimV P (Instr.makeFunc (.func f) (a.map ρ) (b.map ρ)) w n0 w0 G (.fn f (a.toList.map (evalO σ)) (b.toList.map (evalO σ))) H := by
  have e : ∀ (c : Array Operand), c.map ρ = (c.toList.map ρ).toArray := fun c => by rw [← Array.toList_map, Array.toArray_toList]
  refine .same hW (u := .func (.func f) (a.toList.map ρ).toArray (b.toList.map ρ).toArray) (by rw [← e, ← e]; rfl) (.fn (by simp) (by simp) (fun i h h' => ?_) (fun i h h' => ?_))
  · simp only [List.getElem_map]; exact ha _ (List.getElem_mem _)
  · simp only [List.getElem_map]; exact hb _ (List.getElem_mem _)

theorem simv_mkMap {t k e : TypeId} (_ht : P.underlying t = some (.map k e)) (hW : WRel n0 w0 G H w) (hF : Free n0 G H) : SimV P (Instr.makeMap t none) w n0 w0 G (.mp H.n) (H.push (.map [] 0)) := by
  obtain ⟨g1, g2⟩ := hW.push_map hF
  refine ⟨.map (some w.heap.size), _, _, ?_, g1, g2, .mp (by simp [Gh.withMp])⟩
  simp [Instr.makeMap]

theorem simv_fieldAddr {s : TypeId} {fs : Array Field} {fd : Field} {f n : Nat} {x : AV} {vx : Value} (hs : P.underlying s = some (.struct fs)) (hf : fs[f]? = some fd) (hn : sizeN P fd.type = some n) (h0 : n ≠ 0) (hx : Rep G x vx) (hW : WRel n0 w0 G H w)
    (h : aop [x] H (.fieldAddr fd.offset (.tmp 0)) = some (v, H')) : SimV P (Instr.fieldAt s vx f) w n0 w0 G v H' := by
  simp only [aop, evalO, List.getD_cons_zero] at h
  split at h
  · rename_i o g k
    cases h
    obtain ⟨b, s', e, h1, rfl⟩ := hx.ptr'
    have := Rep.ptr (G := G) (k := k + fd.offset) h1
    refine .same hW ?_ this
    simp only [Instr.fieldAt, Sem.run_bind, run_underlying' hs, Result.andThen_ok, hf, Instr.sureAddr, Sem.run_pure, fieldPlace, run_sizeOf' hn, h0, if_false, addr_add, Nat.add_assoc]
  · rename_i cs
    cases h
    obtain ⟨b, k, us, rfl, h1, h2⟩ := hx.ip'
    have hr : Rep G (.ip (cs.drop fd.offset)) (.pointer (some ⟨b, k + fd.offset, none⟩)) := .ip (h1.drop _).1 (h1.drop _).2 (fun i hi => by
      have := h2 (fd.offset + i) (by simp at hi; omega)
      simpa [Nat.add_assoc] using this)
    refine .same hW ?_ hr
    simp only [Instr.fieldAt, Sem.run_bind, run_underlying' hs, Result.andThen_ok, hf, Instr.sureAddr, Sem.run_pure, fieldPlace, run_sizeOf' hn, h0, if_false, addr_add]
  · cases h

theorem simv_field {s : TypeId} {fs : Array Field} {fd : Field} {f : Nat} {n : Option Nat} {cs : List AV} {vx : Value} (hs : P.underlying s = some (.struct fs)) (hf : fs[f]? = some fd) (hn : aggN P fd.type = some n) (hx : Rep G (.agg cs) vx) (hW : WRel n0 w0 G H w)
    (h : (match n with | none => (cs[fd.offset]?).map fun v => (v, H) | some m => if fd.offset + m ≤ cs.length then some (.agg ((cs.drop fd.offset).take m), H) else none) = some (v, H')) : SimV P (Instr.field s vx f) w n0 w0 G v H' := by
  obtain ⟨us, rfl, hr⟩ := hx.agg'
  have hl := hr.1
  cases n with
  | none =>
    simp only at h
    cases hc : cs[fd.offset]? with
    | none => simp [hc] at h
    | some y =>
      simp [hc] at h
      obtain ⟨rfl, rfl⟩ := h
      obtain ⟨u, hu, hru⟩ := hr.get? hc
      refine .same hW ?_ hru
      simp only [Instr.field, Sem.run_bind, run_underlying' hs, Result.andThen_ok, hf, asAgg, Sem.run_pure, part, aggN_none hn, Bool.false_eq_true, if_false]
      rw [show (us.toArray)[fd.offset]? = some u by simpa using hu]
      rfl
  | some m =>
    simp only at h
    split at h
    · cases h
      obtain ⟨r1, r2⟩ := aggN_some hn w
      refine .same hW (u := .agg ((us.drop fd.offset).take m).toArray) ?_ (.agg ((hr.drop _).take _).1 ((hr.drop _).take _).2)
      simp only [Instr.field, Sem.run_bind, run_underlying' hs, Result.andThen_ok, hf, asAgg, Sem.run_pure, part, r1, r2, if_true]
      congr 2
      simp [List.extract_eq_take_drop]
    · cases h

end Go.Abs
