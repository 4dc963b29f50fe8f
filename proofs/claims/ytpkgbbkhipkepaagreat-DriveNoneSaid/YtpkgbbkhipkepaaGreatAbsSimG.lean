/-
  EACH OPERATION OF THE ABSTRACT MACHINE STANDS FOR THE MODEL's: part G: reslicing; maps.
-/
import Derived.Test.YtpkgbbkhipkepaaGreatAbsSimF
namespace Go.Abs
open Go.RowKit

variable {P : Program} {n0 : Fr P} {w0 : World} {G : Gh} {H H' : AH} {w : World} {σ : List AV} {ρ : Operand → Value} {v : AV}

theorem run_bound {x : Value} {k : IntKind} {n y : Nat} (hx : x = .int k n) (h : n ≤ y) (c : BoundsCode) : (Instr.sliceBound x y c).run P w = .ok n w := by
  subst hx
  have c1 : (0 ≤ (n : Int) ∧ (n : Int) ≤ (y : Int)) := by omega
  simp only [Instr.sliceBound, asIntOf, Sem.run_bind, Sem.run_pure, Result.andThen_ok, c1, and_self, if_true, Int.toNat_natCast]

/-- An optional number. -/
def OptRep (o : Option Nat) (v : Option Value) : Prop :=
  match o, v with
  | none, none => True
  | some n, some x => ∃ k, x = .int k (n : Int)
  | _, _ => False

theorem run_bounds {isS : Bool} {len cap : Nat} {lo hi mx : Option Nat} {vlo vhi vmx : Option Value} (hlo : OptRep lo vlo) (hhi : OptRep hi vhi) (hmx : OptRep mx vmx) (h1 : lo.getD 0 ≤ hi.getD len) (h2 : hi.getD len ≤ mx.getD cap) (h3 : mx.getD cap ≤ cap) (h4 : mx.isSome = true → hi.isSome = true) :
    (Instr.sliceBounds isS len cap vlo vhi vmx).run P w = .ok (lo.getD 0, hi.getD len, mx.getD cap) w := by
  unfold Instr.sliceBounds
  cases mx with
  | none =>
    cases vmx with
    | some _ => exact hmx.elim
    | none =>
      cases hi with
      | none =>
        cases vhi with
        | some _ => exact hhi.elim
        | none =>
          cases lo with
          | none =>
            cases vlo with
            | some _ => exact hlo.elim
            | none => rfl
          | some l =>
            cases vlo with
            | none => exact hlo.elim
            | some x =>
              obtain ⟨k, hk⟩ := hlo
              simp only [Sem.run_bind, Sem.run_pure, Result.andThen_ok]
              rw [run_bound hk (by simpa using h1)]
              rfl
      | some h =>
        cases vhi with
        | none => exact hhi.elim
        | some y =>
          obtain ⟨k, hk⟩ := hhi
          cases lo with
          | none =>
            cases vlo with
            | some _ => exact hlo.elim
            | none =>
              simp only [Sem.run_bind, Sem.run_pure, Result.andThen_ok]
              rw [run_bound hk (by simpa using h2)]
              rfl
          | some l =>
            cases vlo with
            | none => exact hlo.elim
            | some x =>
              obtain ⟨k', hk'⟩ := hlo
              simp only [Sem.run_bind, Sem.run_pure, Result.andThen_ok]
              rw [run_bound hk (by simpa using h2)]
              simp only [Result.andThen_ok]
              rw [run_bound hk' (by simpa using h1)]
              rfl
  | some m =>
    cases vmx with
    | none => exact hmx.elim
    | some z =>
      obtain ⟨k, hk⟩ := hmx
      cases hi with
      | none => exact absurd (h4 rfl) (by simp)
      | some h =>
        cases vhi with
        | none => exact hhi.elim
        | some y =>
          obtain ⟨k', hk'⟩ := hhi
          simp only [Sem.run_bind]
          rw [run_bound hk (by simpa using h3)]
          simp only [Result.andThen_ok]
          rw [run_bound hk' (by simpa using h2)]
          cases lo with
          | none =>
            cases vlo with
            | some _ => exact hlo.elim
            | none => rfl
          | some l =>
            cases vlo with
            | none => exact hlo.elim
            | some x =>
              obtain ⟨k'', hk''⟩ := hlo
              simp only [Sem.run_bind, Sem.run_pure, Result.andThen_ok]
              rw [run_bound hk'' (by simpa using h1)]
              rfl

theorem flat_len {sz : Nat} : ∀ (l : List AV), (∀ x ∈ l, x.cells.length = sz) → (flat l).length = l.length * sz := by
  intro l
  induction l with
  | nil => intro _; simp [flat]
  | cons a l ih =>
    intro hall
    have := ih (fun x hx => hall x (List.mem_cons_of_mem _ hx))
    simp only [flat] at this
    simp only [flat, List.flatMap_cons, List.length_append, List.length_cons, this, hall a (List.mem_cons_self), Nat.add_mul]
    omega

theorem flat_drop {sz : Nat} : ∀ (l : List AV) (n : Nat), (∀ x ∈ l, x.cells.length = sz) → flat (l.drop n) = (flat l).drop (n * sz) := by
  intro l
  induction l with
  | nil => intro n _; simp [flat]
  | cons a l ih =>
    intro n hall
    cases n with
    | zero => simp
    | succ n =>
      have := ih n (fun x hx => hall x (List.mem_cons_of_mem _ hx))
      simp only [List.drop_succ_cons, flat, List.flatMap_cons]
      rw [show (n + 1) * sz = sz + n * sz by rw [Nat.add_mul]; omega, ← List.drop_drop]
      have h1 : (a.cells ++ List.flatMap AV.cells l).drop sz = List.flatMap AV.cells l := by rw [← hall a (List.mem_cons_self), List.drop_left']; rfl
      rw [h1]
      exact this

theorem flat_take {sz : Nat} : ∀ (l : List AV) (n : Nat), (∀ x ∈ l, x.cells.length = sz) → flat (l.take n) = (flat l).take (n * sz) := by
  intro l
  induction l with
  | nil => intro n _; simp [flat]
  | cons a l ih =>
    intro n hall
    cases n with
    | zero => simp [flat]
    | succ n =>
      have := ih n (fun x hx => hall x (List.mem_cons_of_mem _ hx))
      simp only [flat] at this
      simp only [List.take_succ_cons, flat, List.flatMap_cons, this]
      have ha := hall a (List.mem_cons_self)
      rw [show (n + 1) * sz = a.cells.length + n * sz by rw [Nat.add_mul, ha]; omega, List.take_length_add_append]

/-- A piece of a row that stays. -/
theorem rep_piece {t' : Tk} {sz : Nat} {xs : List AV} {b k lo h cap' : Nat} {us : List Value} (hr : Reps G (flat xs) us) (hs : ∀ x ∈ xs, x.cells.length = sz) (hm : ∀ i (h : i < us.length), G.mem b (k + i) = some us[i])
    (h1 : lo ≤ h) (h2 : h ≤ xs.length) (hc : h - lo ≤ cap') (ht : tkOk G t' b (k + lo * sz) (h - lo) cap' sz) :
    Rep G (.sl t' sz ((xs.drop lo).take (h - lo))) (.slice (some ⟨b, k + lo * sz, none⟩) (h - lo) cap') := by
  have hl : ((xs.drop lo).take (h - lo)).length = h - lo := by simp; omega
  have hs' : ∀ x ∈ xs.drop lo, x.cells.length = sz := fun x hx => hs x (List.mem_of_mem_drop hx)
  have hs'' : ∀ x ∈ (xs.drop lo).take (h - lo), x.cells.length = sz := fun x hx => hs' x (List.mem_of_mem_take hx)
  have hf : flat ((xs.drop lo).take (h - lo)) = ((flat xs).drop (lo * sz)).take ((h - lo) * sz) := by rw [flat_take _ _ hs', flat_drop _ _ hs]
  have hr' := (hr.drop (lo * sz)).take ((h - lo) * sz)
  have := Rep.sl (G := G) (t := t') (sz := sz) (xs := (xs.drop lo).take (h - lo)) (us := (us.drop (lo * sz)).take ((h - lo) * sz)) (b := b) (k := k + lo * sz) (cap := cap') (by rw [hf]; exact hr'.1) hs''
    (fun i hi hi' => by simp only [hf]; exact hr'.2 i (by rw [hf] at hi; exact hi) hi') (fun i hi => by
      simp only [List.getElem_take, List.getElem_drop]
      have := hm (lo * sz + i) (by simp at hi; omega)
      rw [← this]; congr 1; omega) (by rw [hl]; exact hc) (by rw [hl]; exact ht)
  rw [hl] at this
  exact this

theorem simv_aslice {tt : TypeId} {kk : Option Nat} {x : AV} {vx : Value} {lo : Nat} {hi mx : Option Nat} {olo : Option Nat} {vlo vhi vmx : Option Value} (ht : match kk with | none => P.underlying tt = some .string | some n => ∃ e, P.underlying tt = some (.slice e) ∧ sizeN P e = some n)
    (hlo : OptRep olo vlo) (hlo' : olo.getD 0 = lo) (hhi : OptRep hi vhi) (hmx : OptRep mx vmx) (h4 : mx.isSome = true → hi.isSome = true) (hx : Rep G x vx) (hW : WRel n0 w0 G H w) (h : aslice H kk x lo hi mx = some v) :
    SimV P (Instr.slice tt vx vlo vhi vmx) w n0 w0 G v H := by
  unfold aslice at h
  split at h
  · -- string
    rename_i s
    simp only at ht h
    split at h
    · rename_i hc
      cases h
      rw [(hx.lit').1]
      have hmn : vmx = none ∧ mx = none := by
        cases mx with
        | none => cases vmx with
          | none => exact ⟨rfl, rfl⟩
          | some _ => exact hmx.elim
        | some _ => simp at hc
      obtain ⟨rfl, rfl⟩ := hmn
      refine .same hW ?_ (.lit rfl)
      have hb := run_bounds (P := P) (w := w) (isS := false) (len := s.size) (cap := s.size) hlo hhi (mx := none) (vmx := none) trivial (by rw [hlo']; exact hc.1) (by simpa using hc.2.1) (by simp) (by simp)
      simp only [Instr.slice, Sem.run_bind, run_underlying' ht, Result.andThen_ok]
      simp only [Option.isSome_none, Bool.false_eq_true, if_false, Sem.run_bind, hb, Result.andThen_ok, hlo']
      rfl
    · cases h
  · -- nil
    obtain ⟨e, ht, hn⟩ := ht
    split at h
    · rename_i hc
      cases h
      rw [(hx.lit').1]
      refine .same hW ?_ (.lit rfl)
      have hb := run_bounds (P := P) (w := w) (isS := true) (len := 0) (cap := 0) hlo hhi hmx (by rw [hlo']; omega) (by omega) (by omega) h4
      simp only [Instr.slice, Sem.run_bind, run_underlying' ht, Result.andThen_ok, hb, run_sizeOf' hn, hlo', hc.1, hc.2.1, hc.2.2]
      rfl
    · cases h
  · -- a row that stays
    rename_i sz0 t sz xs
    obtain ⟨e, ht, hn⟩ := ht
    obtain ⟨b, k, cap, us, rfl, h1, h2, h3, h5, h6⟩ := hx.sl'
    simp only at h
    split at h
    · rename_i hc
      obtain ⟨hca, hcb, rfl⟩ := hc
      have hc : lo ≤ hi.getD xs.length ∧ hi.getD xs.length ≤ xs.length := ⟨hca, hcb⟩
      have run : mx.getD cap ≤ cap → hi.getD xs.length ≤ mx.getD cap → (Instr.slice tt (.slice (some ⟨b, k, none⟩) xs.length cap) vlo vhi vmx).run P w =
          .ok (.slice (if mx.getD cap = lo then some ⟨b, k, none⟩ else some ⟨b, k + lo * sz0, none⟩) (hi.getD xs.length - lo) (mx.getD cap - lo)) w := by
        intro g1 g2
        have hb := run_bounds (P := P) (w := w) (isS := true) (len := xs.length) (cap := cap) hlo hhi hmx (by rw [hlo']; exact hc.1) g2 g1 h4
        simp only [Instr.slice, Sem.run_bind, run_underlying' ht, Result.andThen_ok, hb, run_sizeOf' hn, hlo', Option.map_some, addr_add, Sem.run_pure]
      split at h
      · -- no third index
        have run := run (by simp) (by simp only [Option.getD_none]; omega)
        simp only [Option.getD_none] at run
        split at h
        · rename_i hh
          cases h
          have hd : (xs.drop lo).take (hi.getD xs.length - lo) = xs.drop lo := by rw [hh]; apply List.take_of_length_le; simp
          by_cases hcl : cap = lo
          · -- nothing left: the address stays
            rw [if_pos hcl] at run
            have hx0 : xs.drop lo = [] := by rw [List.drop_eq_nil_iff]; omega
            refine .same hW run ?_
            rw [hx0, hh]
            have e1 : xs.length - lo = 0 := by omega
            have e2 : cap - lo = 0 := by omega
            rw [e1, e2]
            have := Rep.sl (G := G) (t := if t = .lit then .full else t) (sz := sz0) (xs := []) (us := []) (b := b) (k := k) (cap := 0) rfl (fun x hx => by cases hx) (fun i hi => absurd hi (Nat.not_lt_zero _)) (fun i hi => absurd hi (Nat.not_lt_zero _)) (Nat.le_refl _) (by
              cases t <;> first | trivial | rfl | exact .inl ⟨rfl, rfl⟩)
            exact this
          · rw [if_neg hcl] at run
            refine .same hW run ?_
            rw [← hd]
            refine rep_piece h1 h2 h3 hc.1 hc.2 (by omega) ?_
            rw [hh]
            cases t with
            | no => trivial
            | full => simp only [tkOk] at h6 ⊢; simp; omega
            | lit => simp only [tkOk] at h6 ⊢; simp; omega
            | t o =>
              simp only [tkOk] at h6 ⊢
              rcases h6 with h6 | h6
              · omega
              · show (_ ∧ _) ∨ _
                right
                rw [h6]
                have a1 : lo * sz0 + (xs.length - lo) * sz0 = xs.length * sz0 := by rw [← Nat.add_mul]; congr 1; omega
                have a2 : lo * sz0 + (cap - lo) * sz0 = cap * sz0 := by rw [← Nat.add_mul]; congr 1; omega
                simp only [Option.some.injEq, Prod.mk.injEq, true_and]
                constructor <;> omega
        · cases h
          rename_i hh
          have hcl : ¬ cap = lo := by omega
          rw [if_neg hcl] at run
          exact .same hW run (rep_piece h1 h2 h3 hc.1 hc.2 (by omega) trivial)
      · -- a third index
        rename_i m
        split at h
        · rename_i hm
          cases h
          have run := run (by simp only [Option.getD_some]; omega) (by simp only [Option.getD_some]; omega)
          simp only [Option.getD_some] at run
          by_cases hml : m = lo
          · rw [if_pos hml] at run
            refine .same hW run ?_
            have e1 : hi.getD xs.length - lo = 0 := by omega
            have e2 : m - lo = 0 := by omega
            rw [e1, e2]
            have := Rep.sl (G := G) (t := .full) (sz := sz0) (xs := []) (us := []) (b := b) (k := k) (cap := 0) rfl (fun x hx => by cases hx) (fun i hi => absurd hi (Nat.not_lt_zero _)) (fun i hi => absurd hi (Nat.not_lt_zero _)) (Nat.le_refl _) rfl
            simpa using this
          · rw [if_neg hml] at run
            refine .same hW run ?_
            rw [hm]
            exact rep_piece h1 h2 h3 hc.1 hc.2 (Nat.le_refl _) rfl
        · cases h
    · cases h
  · -- a row that is changed
    rename_i sz0 o g sz off len
    obtain ⟨e, ht, hn⟩ := ht
    split at h
    · rename_i ty g' fz cs hg
      simp only at h
      split at h
      · rename_i hc
        obtain ⟨rfl, hc1, hc2, rfl⟩ := hc
        obtain ⟨b, s, e', C, fr, l1, l2, l3, l4, l5, l6, l7, l8⟩ := hW.obj o _ hg
        have hadd : ∀ a : Nat, (off + a) * sz0 = off * sz0 + a * sz0 := fun a => Nat.add_mul _ _ _
        have val : ∃ ad cap, vx = .slice (some ad) len cap ∧ ad = ⟨ad.block, ad.off, none⟩ ∧ ((ad = ⟨b, s + off * sz0, none⟩ ∧ s + (off + cap) * sz0 = e' ∧ len ≤ cap) ∨ (len = 0 ∧ cap = 0)) := by
          cases hx with
          | rs k1 k2 k3 => rw [l1] at k1; cases k1; exact ⟨_, _, rfl, rfl, .inl ⟨rfl, k3, k2⟩⟩
          | rs0 => exact ⟨_, _, rfl, rfl, .inr ⟨rfl, rfl⟩⟩
        obtain ⟨ad, cap, rfl, had, hval⟩ := val
        have hcap : hi.getD len ≤ cap := by
          rcases hval with ⟨_, h2, h3⟩ | ⟨rfl, rfl⟩
          · omega
          · omega
        have run : mx.getD cap ≤ cap → hi.getD len ≤ mx.getD cap → (Instr.slice tt (.slice (some ad) len cap) vlo vhi vmx).run P w =
            .ok (.slice (if mx.getD cap = lo then some ad else some (ad.add (lo * sz0))) (hi.getD len - lo) (mx.getD cap - lo)) w := by
          intro g1 g2
          have hb := run_bounds (P := P) (w := w) (isS := true) (len := len) (cap := cap) hlo hhi hmx (by rw [hlo']; exact hc1) g2 g1 h4
          simp only [Instr.slice, Sem.run_bind, run_underlying' ht, Result.andThen_ok, hb, run_sizeOf' hn, hlo', Option.map_some, Sem.run_pure]
        split at h
        · cases h
          have run := run (by simp) (by simpa using hcap)
          simp only [Option.getD_none] at run
          by_cases hcl : cap = lo
          · rw [if_pos hcl] at run
            refine .same hW run ?_
            have e1 : hi.getD len - lo = 0 := by omega
            have e2 : cap - lo = 0 := by omega
            rw [e1, e2, had]
            exact .rs0 l1
          · rw [if_neg hcl] at run
            refine .same hW run ?_
            rcases hval with ⟨rfl, h2, h3⟩ | ⟨rfl, rfl⟩
            · rw [addr_add, show s + off * sz0 + lo * sz0 = s + (off + lo) * sz0 by rw [hadd]; omega]
              refine .rs l1 (by omega) ?_
              rw [← h2]
              congr 2
              omega
            · omega
        · rename_i m
          split at h
          · rename_i hm
            obtain ⟨hm1, hm2⟩ := hm
            cases h
            have run := run (by simp only [Option.getD_some]; omega) (by simp only [Option.getD_some]; omega)
            simp only [Option.getD_some] at run
            rw [if_pos (by omega)] at run
            refine .same hW run ?_
            have e1 : hi.getD len - lo = 0 := by omega
            have e2 : m - lo = 0 := by omega
            rw [e1, e2, had]
            have := Rep.sl (G := G) (t := .full) (sz := sz0) (xs := []) (us := []) (b := ad.block) (k := ad.off) (cap := 0) rfl (fun x hx => by cases hx) (fun i hi => absurd hi (Nat.not_lt_zero _)) (fun i hi => absurd hi (Nat.not_lt_zero _)) (Nat.le_refl _) rfl
            exact this
          · cases h
      · cases h
    · cases h
  · cases h

/-! ### Maps -/
theorem run_setObj (w : World) (r : Nat) (x y : Obj) (hx : w.heap[r]? = some x) (hc : ∀ c e f, x ≠ .cells c e f) : (setObj r y).run P w = .ok () { w with heap := w.heap.setIfInBounds r y } := by
  cases x <;> first | exact absurd rfl (hc _ _ _) | simp [setObj, Sem.run, hx]

theorem put_set (w : World) (r : Nat) (y : Obj) : Put r w { w with heap := w.heap.setIfInBounds r y } :=
  ⟨rfl, rfl, rfl, by simp, fun k hk => by
    show (w.heap.setIfInBounds r y)[k]? = w.heap[k]?
    rw [Array.getElem?_setIfInBounds, if_neg (by omega)]⟩

theorem bytes_beq' (a b : ByteArray) : (a == b) = (a.toList == b.toList) := beq_toListBytes a b

end Go.Abs
