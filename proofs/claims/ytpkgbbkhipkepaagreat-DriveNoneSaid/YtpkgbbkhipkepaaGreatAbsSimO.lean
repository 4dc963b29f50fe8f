/-
  EVERY OPERATION THAT IS LOOKED UP STANDS FOR THE MODEL's.
-/
import Derived.Test.YtpkgbbkhipkepaaGreatAbsSimN
import Derived.Laws.Externs
namespace Go.Abs
open Go.RowKit

variable {P : Program} {n0 : Fr P} {w0 : World} {G : Gh} {H H' : AH} {w : World} {σ : List AV} {ρ : Operand → Value} {v : AV}

/-- The entries that the machine knows. -/
structure ExtOk (P : Program) : Prop where
  noEscape : ∀ (f : FuncId) (fn : Func), P.funcs[f]? = some fn → fn.body.isNone = true → fn.name = "internal/abi.NoEscape" → Extern.findNext fn = none ∧ Extern.find fn = some Extern.AbiNoEscape.same

theorem opt_spec {b : Bool} {x y : AOp} (h : opt b x = some y) : b = true ∧ x = y := by
  unfold opt at h
  split at h
  · cases h; exact ⟨by assumption, rfl⟩
  · cases h

theorem all_ok {o : Op} (h : (opL o).all okO = true) : ∀ x ∈ o.operands.toList, okO x = true := by
  intro x hx
  rw [← opL_eq] at hx
  exact List.all_eq_true.1 h x hx

theorem bslice_ok {ann : Nat} {t : TypeId} {len : Nat} {parts : Array (Nat × Operand)} {ao : AOp} (hp : prepIn P ann (.buildSlice t len parts) = some ao) (hE : ∀ x ∈ parts.toList, Rep G (evalO σ x.2) (ρ x.2)) (hW : WRel n0 w0 G H w) (hF : Free n0 G H) (h : aop σ H ao = some (v, H')) :
    SimV P (Instr.buildSlice t len (parts.map fun (i, x) => (i, ρ x))) w n0 w0 G v H' := by
  simp only [prepIn] at hp
  split at hp
  · rename_i e he
    split at hp
    · rename_i s z hs hz
      split at hp
      · rename_i hc
        cases hp
        exact simv_bslice he hs hz hc.1 hc.2.1 hc.2.2 hE hW hF h
      · cases hp
    · cases hp
  · cases hp

theorem build_ok {ann : Nat} {t : TypeId} {parts : Array (Nat × Operand)} {ao : AOp} (hp : prepIn P ann (.build t parts) = some ao) (hE : ∀ x ∈ parts.toList, Rep G (evalO σ x.2) (ρ x.2)) (hW : WRel n0 w0 G H w) (h : aop σ H ao = some (v, H')) :
    SimV P (Instr.build t (parts.map fun (i, x) => (i, ρ x))) w n0 w0 G v H' := by
  simp only [prepIn] at hp
  split at hp
  · rename_i fs z ht hz
    split at hp
    · rename_i hf
      cases hps : structParts P fs parts.toList with
      | none => simp [hps] at hp
      | some ps =>
        simp [hps] at hp
        subst hp
        simp only [aop] at h
        cases ha : afill z (ps.map fun (o, s, x) => (o, s, evalO σ x)) with
        | none => simp [ha] at h
        | some cs =>
          simp [ha] at h
          obtain ⟨rfl, rfl⟩ := h
          exact simv_build_struct ht hz hf hps hE hW ha
    · cases hp
  · rename_i n e z ht hz
    split at hp
    · rename_i s hs
      cases hp
      simp only [aop] at h
      cases ha : afill z ((parts.toList.map fun (i, x) => (i * s, s, x)).map fun (o, s, x) => (o, s, evalO σ x)) with
      | none => rw [ha] at h; cases h
      | some cs =>
        rw [ha] at h
        simp at h
        obtain ⟨rfl, rfl⟩ := h
        exact simv_build_array ht hz hs hE hW ha
    · cases hp
  · cases hp

theorem bin_ok {ann : Nat} {op : BinOp} {t yt : TypeId} {x y : Operand} {ao : AOp} (hp : prepIn P ann (.binOp op t x y yt) = some ao) (hx : Rep G (evalO σ x) (ρ x)) (hy : Rep G (evalO σ y) (ρ y)) (hW : WRel n0 w0 G H w) (h : aop σ H ao = some (v, H')) :
    SimV P (do eqGuard op t x y (ρ x) (ρ y); binOp op t (ρ x) (ρ y)) w n0 w0 G v H' := by
  simp only [prepIn] at hp
  have key : ∀ e, eqKind P t = some e → (e = .iface → isC x = true ∨ isC y = true) → ao = .bin op e x y → SimV P (do eqGuard op t x y (ρ x) (ρ y); binOp op t (ρ x) (ρ y)) w n0 w0 G v H' := by
    rintro e he hc rfl
    simp only [aop] at h
    cases ha : abin op e (evalO σ x) (evalO σ y) with
    | none => simp [ha] at h
    | some r =>
      simp [ha] at h
      obtain ⟨rfl, rfl⟩ := h
      exact simv_bin (eqKind_ok he) hc hx hy hW ha
  split at hp
  · rename_i he
    obtain ⟨h1, h2⟩ := opt_spec hp
    exact key _ he (fun _ => by simpa using h1) h2.symm
  · rename_i e hne he
    cases hp
    exact key _ he (fun h0 => absurd h0 (by rintro rfl; exact hne rfl)) rfl
  · cases hp

theorem conv_ok {ann : Nat} {s d : TypeId} {x : Operand} {ao : AOp} (hp : prepIn P ann (.convert s d x) = some ao) (hx : Rep G (evalO σ x) (ρ x)) (hW : WRel n0 w0 G H w) (hF : Free n0 G H) (h : aop σ H ao = some (v, H')) : SimV P (convert s d (ρ x)) w n0 w0 G v H' := by
  simp only [prepIn] at hp
  split at hp
  · rename_i k0 k hs hd
    cases hp
    simp only [aop] at h
    split at h
    · rename_i j n he
      rw [he] at hx
      cases h
      rw [hx.int]
      exact simv_convInt hs hd hW
    · cases h
  · rename_i hs hd
    cases hp
    simp only [aop] at h
    split at h
    · rename_i b he
      rw [he] at hx
      cases h
      rw [(hx.lit').1]
      exact simv_convId hs hd hW
    · cases h
  · rename_i e hs hd
    split at hp
    · rename_i he
      cases hp
      exact simv_convSB hs hd he hx hW hF h
    · cases hp
  · rename_i e hs hd
    split at hp
    · rename_i he
      cases hp
      simp only [aop] at h
      split at h
      · rename_i xs hxs
        cases hb : toBytes? xs with
        | none => simp [hb] at h
        | some bs =>
          simp [hb] at h
          obtain ⟨rfl, rfl⟩ := h
          exact simv_convBS hs he hd hW hx hxs hb
      · cases h
    · cases hp
  · rename_i e0 e hs hd
    split at hp
    · rename_i he
      obtain ⟨h1, rfl⟩ := opt_spec hp
      have hsd : s = d := by simpa using h1
      subst hsd
      simp only [aop] at h
      split at h
      · rename_i sz xs hxe
        rw [hxe] at hx
        cases h
        exact simv_convSame hd he hW hx
      · cases h
    · cases hp
  · rename_i e hs hd
    split at hp
    · rename_i n hn
      obtain ⟨h1, rfl⟩ := opt_spec hp
      exact simv_convUP (.inl ⟨hs, hd⟩) hn (by simpa using h1) hx hW h
    · cases hp
  · rename_i e hs hd
    split at hp
    · rename_i n hn
      obtain ⟨h1, rfl⟩ := opt_spec hp
      simp only [Bool.and_eq_true] at h1
      exact simv_convUP (.inr ⟨hs, hd⟩) hn (by simpa using h1.1) hx hW h
    · cases hp
  · cases hp

theorem slice_ok {ann : Nat} {t : TypeId} {x : Operand} {lo hi mx : Option Operand} {ao : AOp} (hp : prepIn P ann (.slice t x lo hi mx) = some ao) (hx : Rep G (evalO σ x) (ρ x)) (hlo : ∀ y, lo = some y → Rep G (evalO σ y) (ρ y)) (hhi : ∀ y, hi = some y → Rep G (evalO σ y) (ρ y)) (hmx : ∀ y, mx = some y → Rep G (evalO σ y) (ρ y))
    (hW : WRel n0 w0 G H w) (h : aop σ H ao = some (v, H')) : SimV P (Instr.sliceAt t (ρ x) (lo.map ρ) (hi.map ρ) (mx.map ρ)) w n0 w0 G v H' := by
  have key : ∀ kk, ao = .slice kk x lo hi mx → (match kk with | none => P.underlying t = some .string | some n => ∃ e, P.underlying t = some (.slice e) ∧ sizeN P e = some n) → SimV P (Instr.slice t (ρ x) (lo.map ρ) (hi.map ρ) (mx.map ρ)) w n0 w0 G v H' := by
    rintro kk rfl ht
    simp only [aop] at h
    split at h
    · rename_i l hl
      have hlo' : ∃ olo, OptRep olo (lo.map ρ) ∧ olo.getD 0 = l := by
        cases lo with
        | none => simp [optNat] at hl; exact ⟨none, trivial, by simp [← hl]⟩
        | some y =>
          simp only [optNat] at hl
          obtain ⟨k, hk⟩ := natOf_rep hl (hlo y rfl)
          exact ⟨some l, ⟨k, hk⟩, rfl⟩
      obtain ⟨olo, h1, h2⟩ := hlo'
      split at h
      · cases ha : aslice H kk (evalO σ x) l none none with
        | none => simp [ha] at h
        | some r =>
          simp [ha] at h
          obtain ⟨rfl, rfl⟩ := h
          exact simv_aslice ht h1 h2 (hi := none) (mx := none) trivial trivial (by simp) hx hW ha
      · rename_i y
        split at h
        · rename_i m hm
          obtain ⟨k, hk⟩ := natOf_rep hm (hhi y rfl)
          cases ha : aslice H kk (evalO σ x) l (some m) none with
          | none => simp [ha] at h
          | some r =>
            simp [ha] at h
            obtain ⟨rfl, rfl⟩ := h
            exact simv_aslice ht h1 h2 (hi := some m) (mx := none) ⟨k, hk⟩ trivial (by simp) hx hW ha
        · cases h
      · rename_i y y2
        split at h
        · rename_i m m2 hm hm2
          obtain ⟨k, hk⟩ := natOf_rep hm (hhi y rfl)
          obtain ⟨k2, hk2⟩ := natOf_rep hm2 (hmx y2 rfl)
          cases ha : aslice H kk (evalO σ x) l (some m) (some m2) with
          | none => simp [ha] at h
          | some r =>
            simp [ha] at h
            obtain ⟨rfl, rfl⟩ := h
            exact simv_aslice ht h1 h2 (hi := some m) (mx := some m2) ⟨k, hk⟩ ⟨k2, hk2⟩ (by simp) hx hW ha
        · cases h
      · cases h
    · cases h
  have same : ∀ d, P.underlying t = some d → (∀ n e, d ≠ .array n e) → SimV P (Instr.slice t (ρ x) (lo.map ρ) (hi.map ρ) (mx.map ρ)) w n0 w0 G v H' → SimV P (Instr.sliceAt t (ρ x) (lo.map ρ) (hi.map ρ) (mx.map ρ)) w n0 w0 G v H' := by
    intro d hd hna hs
    obtain ⟨u, w', G', g1, g2⟩ := hs
    refine ⟨u, w', G', ?_, g2⟩
    rw [← g1]
    simp only [Instr.sliceAt, Sem.run_bind, run_underlying' hd, Result.andThen_ok]
  simp only [prepIn] at hp
  split at hp
  · rename_i ht
    cases hp
    exact same _ ht (by simp) (key none rfl ht)
  · rename_i e ht
    cases hn : sizeN P e with
    | none => simp [hn] at hp
    | some n =>
      simp [hn] at hp
      exact same _ ht (by simp) (key (some n) hp.symm ⟨e, ht, hn⟩)
  · cases hp

theorem list1 {α : Type} {a : Array α} {x : α} (h : a.toList = [x]) : a = #[x] := by
  apply Array.ext'
  simpa using h
theorem list2 {α : Type} {a : Array α} {x y : α} (h : a.toList = [x, y]) : a = #[x, y] := by
  apply Array.ext'
  simpa using h

theorem map1 (ρ : Operand → Value) (x : Operand) : (#[x] : Array Operand).map ρ = #[ρ x] := by simp
theorem map2 (ρ : Operand → Value) (x y : Operand) : (#[x, y] : Array Operand).map ρ = #[ρ x, ρ y] := by simp

theorem builtin_ok {ann : Nat} {b : Builtin} {args : Array Operand} {ts : Array TypeId} {ao : AOp} (hp : prepBuiltin P ann b args ts = some ao) (hE : ∀ x ∈ args.toList, Rep G (evalO σ x) (ρ x)) (hW : WRel n0 w0 G H w) (hF : Free n0 G H) (hN : ao.chain = true → H.get H.n = none) (h : aop σ H ao = some (v, H')) (ty : TypeId) (cs : Array Bool) :
    Sim ((builtin b ts ty cs (args.map ρ)).run P w) n0 w0 G v H' := by
  unfold prepBuiltin at hp
  split at hp
  · -- len
    rename_i x t ha hts
    rw [list1 ha, list1 hts, map1]
    have hx := hE x (by rw [ha]; simp)
    split at hp
    · rename_i ht; cases hp; exact (simv_len (.inl ⟨rfl, ht⟩) hx hW ty h).sim
    · rename_i e ht; cases hp; exact (simv_len (.inr (.inl ⟨rfl, _, ht⟩)) hx hW ty h).sim
    · rename_i k e ht; cases hp; exact (simv_len (.inr (.inr ⟨rfl, _, _, ht⟩)) hx hW ty h).sim
    · cases hp
  · -- cap
    rename_i x t ha hts
    rw [list1 ha, list1 hts, map1]
    have hx := hE x (by rw [ha]; simp)
    split at hp
    · rename_i ht; cases hp; exact (simv_capn ht hx hW ty h).sim
    · cases hp
  · -- append
    rename_i x y t u ha hts
    rw [list2 ha, list2 hts, map2]
    have hx := hE x (by rw [ha]; simp)
    have hy := hE y (by rw [ha]; simp)
    split at hp
    · rename_i e ht
      have ht' := isSl_und ht
      split at hp
      · rename_i i k hi hu
        split at hp
        · rename_i z hz
          obtain ⟨_, rfl⟩ := opt_spec hp
          exact (simv_appendZ ht' hu hi hz hx hy hW hF h).sim
        · cases hp
      · rename_i i e2 hi hu
        split at hp
        · rename_i z hz
          obtain ⟨hc, rfl⟩ := opt_spec hp
          simp only [Bool.and_eq_true, beq_iff_eq, decide_eq_true_eq] at hc
          exact (simv_append ht' hu (by simp) hi hz hc.1 hc.2 hx hy hW (hN rfl) h).sim
        · cases hp
      · rename_i i hi hu
        split at hp
        · rename_i z hz
          obtain ⟨hc, rfl⟩ := opt_spec hp
          simp only [Bool.and_eq_true, beq_iff_eq, decide_eq_true_eq] at hc
          exact (simv_append ht' hu (by simp) hi hz hc.1 hc.2 hx hy hW (hN rfl) h).sim
        · cases hp
      · cases hp
    · cases hp
  · -- copy
    rename_i x y t tr ha hts
    have ht0 : ts[0]? = some t := by
      rw [← Array.getElem?_toList, hts]; rfl
    rw [list2 ha, map2]
    have hx := hE x (by rw [ha]; simp)
    have hy := hE y (by rw [ha]; simp)
    split at hp
    · rename_i e ht
      cases hn : sizeN P e with
      | none => simp [hn] at hp
      | some n =>
        simp [hn] at hp
        subst hp
        exact (simv_copy (isSl_und ht) ht0 hn hx hy hW h).sim
    · cases hp
  · -- clear
    rename_i x t ha hts
    have ht0 : ts[0]? = some t := by
      rw [← Array.getElem?_toList, hts]; rfl
    rw [list1 ha, map1]
    have hx := hE x (by rw [ha]; simp)
    split at hp
    · rename_i e ht
      split at hp
      · rename_i z n hz hn
        split at hp
        · rename_i hc
          cases hp
          exact (simv_clear (isSl_und ht) ht0 hz hc.2 hx hW h).sim
        · cases hp
      · cases hp
    · cases hp
  · -- min
    rename_i x y ha
    rw [list2 ha, map2]
    have hx := hE x (by rw [ha]; simp)
    have hy := hE y (by rw [ha]; simp)
    cases hp
    have := simv_minmax (P := P) (mx := false) (xs := [x, y]) (r := v) (H' := H') (fun z hz => by
      rcases List.mem_cons.1 hz with rfl | hz
      · exact hx
      · rcases List.mem_cons.1 hz with rfl | hz
        · exact hy
        · cases hz) hW h ts ty
    exact this.sim
  · -- max
    rename_i x y ha
    rw [list2 ha, map2]
    have hx := hE x (by rw [ha]; simp)
    have hy := hE y (by rw [ha]; simp)
    cases hp
    have := simv_minmax (P := P) (mx := true) (xs := [x, y]) (r := v) (H' := H') (fun z hz => by
      rcases List.mem_cons.1 hz with rfl | hz
      · exact hx
      · rcases List.mem_cons.1 hz with rfl | hz
        · exact hy
        · cases hz) hW h ts ty
    exact this.sim
  · -- unsafe.SliceData
    rename_i x ha
    rw [list1 ha, map1]
    have hx := hE x (by rw [ha]; simp)
    cases hp
    exact (simv_usData hx hW h).sim
  · -- unsafe.String
    rename_i x y t u ha hts
    rw [list2 ha, list2 hts, map2]
    have hx := hE x (by rw [ha]; simp)
    have hy := hE y (by rw [ha]; simp)
    split at hp
    · rename_i e ht
      split at hp
      · split at hp
        · rename_i hn
          cases hp
          exact (simv_usString ht hn hx hy hW h).sim
        · cases hp
      · cases hp
    · cases hp
  · cases hp; cases h
  · cases hp

theorem fieldAddr_tmp {off : Nat} {x : Operand} (h : aop σ H (.fieldAddr off x) = some (v, H')) : aop [evalO σ x] H (.fieldAddr off (.tmp 0)) = some (v, H') := by
  simpa only [aop, evalO, List.getD_cons_zero] using h

theorem parts_ok {t : TypeId} {parts : Array (Nat × Operand)} (hE : ∀ x ∈ (Op.build t parts).operands.toList, Rep G (evalO σ x) (ρ x)) : ∀ x ∈ parts.toList, Rep G (evalO σ x.2) (ρ x.2) := by
  intro x hx
  refine hE _ ?_
  simp only [Op.operands]
  exact List.mem_map.2 ⟨x, hx, rfl⟩

theorem noEscape_ok (hext : ExtOk P) {f : FuncId} {fn : Func} {x : Operand} (hf : P.funcs[f]? = some fn) (hb : fn.body.isSome = false) (hn : (fn.name == "internal/abi.NoEscape") = true) (hfv : ρ (.func f) = .func (.func f) #[] #[]) (hx : Rep G (evalO σ x) (ρ x)) (hW : WRel n0 w0 G H w)
    {c : Call} (hc : c.callee = .value (.func f)) (ha : c.args = #[x]) (ty : TypeId) : Sim ((do let d ← resolve ρ c ty; invoke d.target d.args : Sem Next).run P w) n0 w0 G (evalO σ x) H := by
  have hname : fn.name = "internal/abi.NoEscape" := by simpa using hn
  have hbn : fn.body.isNone = true := by
    cases h : fn.body with
    | none => rfl
    | some _ => rw [h] at hb; cases hb
  obtain ⟨h1, h2⟩ := hext.noEscape f fn hf hbn hname
  have hr : (do let d ← resolve ρ c ty; invoke d.target d.args : Sem Next) = callFunc f (#[ρ x] ++ #[]) := by
    unfold resolve
    rw [hc, ha]
    simp only [hfv, Deferred.ofValue]
    simp [invoke]
  have e : (callFunc f (#[ρ x] ++ #[])).run P w = .ok (.value (ρ x)) w := by
    rw [run_callFunc_extern hf (by rw [hname]; decide) hbn h1 h2]
    rfl
  rw [hr]
  exact ⟨ρ x, w, G, .inl e, Gh.le.refl _, hW, hx⟩

theorem sim_op (hext : ExtOk P) {o : Oper} {ann : Nat} {ao : AOp} (hp : prepOp P ann o = some ao) (hE : ∀ x ∈ o.op.operands.toList, Rep G (evalO σ x) (ρ x)) (hW : WRel n0 w0 G H w) (hF : Free n0 G H) (hN : ao.chain = true → H.get H.n = none) (h : aop σ H ao = some (v, H')) : Sim ((execOp ρ o).run P w) n0 w0 G v H' := by
  unfold prepOp at hp
  split at hp
  rotate_left
  · cases hp
  rename_i hall0
  unfold execOp
  cases hop : o.op <;> rw [hop] at hp hE <;> simp only []
  case move x =>
    cases hp; cases h
    exact .val rfl hW (hE x (by simp [Op.operands]))
  case assign x =>
    cases hp; cases h
    exact .val rfl hW (hE x (by simp [Op.operands]))
  case pick c a b =>
    cases hp
    have hc := hE c (by simp [Op.operands])
    have ha := hE a (by simp [Op.operands])
    have hb := hE b (by simp [Op.operands])
    simp only [aop] at h
    split at h
    · rename_i e
      rw [e] at hc
      cases h
      exact .val (u := ρ a) (by simp [hc.bool', asBool]) hW ha
    · rename_i e
      rw [e] at hc
      cases h
      exact .val (u := ρ b) (by simp [hc.bool', asBool]) hW hb
    · cases h
  case alloc t =>
    simp only [prepIn] at hp
    cases hz : zeroC P t with
    | none => simp [hz] at hp
    | some z =>
      simp [hz] at hp
      subst hp
      cases h
      exact (simv_alloc hz hW hF).sim
  case box t x =>
    cases hp; cases h
    exact (simv_box hW hF (hE x (by simp [Op.operands]))).sim
  case build t parts => exact (build_ok hp (parts_ok hE) hW h).sim
  case buildSlice t len parts => exact (bslice_ok hp (parts_ok (t := t) hE) hW hF h).sim
  case load t a =>
    simp only [prepIn] at hp
    cases hn : aggN P t with
    | none => simp [hn] at hp
    | some n =>
      simp [hn] at hp
      subst hp
      simp only [aop] at h
      cases hl : loadFrom H (evalO σ a) n with
      | none => simp [hl] at h
      | some r =>
        simp [hl] at h
        obtain ⟨rfl, rfl⟩ := h
        exact (simv_load hn hW (hE a (by simp [Op.operands])) hl).sim
  case store t a x =>
    simp only [prepIn] at hp
    cases hn : sizeN P t with
    | none => simp [hn] at hp
    | some n =>
      simp [hn] at hp
      subst hp
      obtain ⟨rfl, hs⟩ := simu_storeF hn (hE a (by simp [Op.operands])) (hE x (by simp [Op.operands])) hW h
      exact hs.sim
  case nilCheck x =>
    cases hp
    have := simv_nilCheck (P := P) (hE x (by simp [Op.operands])) hW o hop h
    unfold execOp at this
    rw [hop] at this
    exact this
  case binOp op t x y yt => exact (bin_ok hp (hE x (by simp [Op.operands])) (hE y (by simp [Op.operands])) hW h).sim
  case unOp op t x =>
    cases hp
    simp only [aop] at h
    cases hu : aun op (evalO σ x) with
    | none => simp [hu] at h
    | some r =>
      simp [hu] at h
      obtain ⟨rfl, rfl⟩ := h
      exact (simv_un (hE x (by simp [Op.operands])) hW hu).sim
  case convert s d x => exact (conv_ok hp (hE x (by simp [Op.operands])) hW hF h).sim
  case makeInterface t x =>
    simp only [prepIn] at hp
    split at hp
    · cases hp
    · rename_i d hd ht
      cases hp; cases h
      exact (simv_mkIface ht (by rintro ms rfl; exact hd ms rfl) (hE x (by simp [Op.operands])) hW).sim
    · cases hp
  case makeFunc fn a b =>
    cases fn with
    | func f =>
      cases hp; cases h
      exact (simv_mkFunc (fun x hx => hE x (by simp [Op.operands] at hx ⊢; exact .inl hx)) (fun x hx => hE x (by simp [Op.operands] at hx ⊢; exact .inr hx)) hW).sim
    | _ => exact absurd hp (by simp [prepIn])
  case makeMap t r =>
    cases r <;> simp only [prepIn] at hp
    · split at hp
      · rename_i k e ht
        cases hp; cases h
        exact (simv_mkMap ht hW hF).sim
      · cases hp
    · cases hp
  case makeSlice t l c =>
    simp only [prepIn] at hp
    split at hp
    · rename_i e he
      split at hp
      · rename_i i z hi hz
        split at hp
        · rename_i hc
          cases hp
          simp only [aop] at h
          split at h
          · rename_i m n hm hn
            split at h
            · rename_i hc2
              cases h
              obtain ⟨k1, e1⟩ := natOf_rep hm (hE l (by simp [Op.operands]))
              obtain ⟨k2, e2⟩ := natOf_rep hn (hE c (by simp [Op.operands]))
              exact (simv_mkSlice he hi hz hc.1 hc.2 e1 e2 hc2.1 hc2.2.1 hW hF).sim
            · cases h
          · cases h
        · cases hp
      · cases hp
    · cases hp
  case slice t x lo hi mx =>
    refine (slice_ok hp (hE x (by simp [Op.operands])) (fun y hy => hE y (by subst hy; simp [Op.operands])) (fun y hy => hE y (by subst hy; simp [Op.operands])) (fun y hy => hE y (by subst hy; simp [Op.operands])) hW h).sim
  case fieldAddr s x f =>
    simp only [prepIn] at hp
    split at hp
    · rename_i fs hs
      split at hp
      · rename_i fd hf
        split at hp
        · rename_i n hn
          obtain ⟨h1, rfl⟩ := opt_spec hp
          exact (simv_fieldAddr hs hf hn (by simpa using h1) (hE x (by simp [Op.operands])) hW (fieldAddr_tmp h)).sim
        · cases hp
      · cases hp
    · cases hp
  case field s x f =>
    simp only [prepIn] at hp
    split at hp
    · rename_i fs hs
      split at hp
      · rename_i fd hf
        cases hn : aggN P fd.type with
        | none => simp [hn] at hp
        | some n =>
          simp [hn] at hp
          subst hp
          have hx := hE x (by simp [Op.operands])
          simp only [aop] at h
          split at h
          · rename_i cs hxe
            rw [hxe] at hx
            cases n with
            | none => exact (simv_field hs hf hn hx hW h).sim
            | some m => exact (simv_field hs hf hn hx hW h).sim
          · cases h
      · cases hp
    · cases hp
  case indexAddr t x i =>
    simp only [prepIn] at hp
    split at hp
    · rename_i e he
      cases hn : sizeN P e with
      | none => simp [hn] at hp
      | some n =>
        simp [hn] at hp
        subst hp
        exact (simv_indexAddr he hn (hE x (by simp [Op.operands])) (hE i (by simp [Op.operands])) hW h).sim
    · cases hp
  case index t x i =>
    simp only [prepIn] at hp
    split at hp
    · rename_i ht
      cases hp
      exact (simv_index ht (hE x (by simp [Op.operands])) (hE i (by simp [Op.operands])) hW h).sim
    · cases hp
  case lookup t x i ok =>
    simp only [prepIn] at hp
    split at hp
    · rename_i k e ht
      split at hp
      · rename_i z hz
        cases hk : keyTy P k with
        | none => simp [hk] at hp
        | some kk =>
          simp [hk] at hp
          subst hp
          exact (simv_lookup ht hk hz (hE x (by simp [Op.operands])) (hE i (by simp [Op.operands])) hW h).sim
      · cases hp
    · cases hp
  case mapUpdate t m k x =>
    simp only [prepIn] at hp
    split at hp
    · rename_i kt et ht
      cases hk : keyTy P kt with
      | none => simp [hk] at hp
      | some kk =>
        simp [hk] at hp
        subst hp
        obtain ⟨rfl, hs⟩ := simu_mapUpdate ht hk (hE m (by simp [Op.operands])) (hE k (by simp [Op.operands])) (hE x (by simp [Op.operands])) hW h
        exact hs.sim
    · cases hp
  case insert t m k x =>
    simp only [prepIn] at hp
    split at hp
    · rename_i kt et ht
      cases hk : keyTy P kt with
      | none => simp [hk] at hp
      | some kk =>
        simp [hk] at hp
        subst hp
        obtain ⟨rfl, hs⟩ := simu_mapUpdate ht hk (hE m (by simp [Op.operands])) (hE k (by simp [Op.operands])) (hE x (by simp [Op.operands])) hW h
        exact hs.sim
    · cases hp
  case range t x =>
    simp only [prepIn] at hp
    split at hp
    · rename_i ht
      cases hp
      exact (simv_range ht (hE x (by simp [Op.operands])) hW hF h).sim
    · cases hp
  case next it b =>
    cases b <;> simp only [prepIn] at hp
    · cases hp
    · cases hp
      exact (simv_next (hE it (by simp [Op.operands])) hW _ h).sim
  case extract t i =>
    cases hp
    exact (simv_extract (hE t (by simp [Op.operands])) hW h).sim
  case typeAssert x t a ok =>
    simp only [prepIn] at hp
    split at hp
    · cases hp
    · rename_i d ms hd ha ht
      cases hz : zeroV P a with
      | none => simp [hz] at hp
      | some z =>
        simp [hz] at hp
        subst hp
        exact (simv_typeIs ht ha (by rintro ms rfl; exact hd ms rfl) hz (hE x (by simp [Op.operands])) hW h).sim
    · cases hp
  case call c =>
    obtain ⟨callee, args, argTypes⟩ := c
    cases callee with
    | builtin b =>
      simp only [prepIn] at hp
      have hE' : ∀ x ∈ args.toList, Rep G (evalO σ x) (ρ x) := fun x hx => hE x (by simpa [Op.operands, Call.operands] using hx)
      exact builtin_ok hp hE' hW hF hN h _ _
    | invoke r n => simp [prepIn] at hp
    | value f =>
      cases f with
      | func g =>
        simp only [prepIn] at hp
        split at hp
        · rename_i fn hfn
          split at hp
          · split at hp
            · cases hp; cases h
            · cases hp
          · rename_i hb
            split at hp
            · rename_i hn
              split at hp
              · rename_i x hargs
                cases hp
                cases h
                have hfv : ρ (.func g) = .func (.func g) #[] #[] := by
                  have := hE (.func g) (by simp [Op.operands, Call.operands])
                  simp only [evalO] at this
                  generalize ρ (.func g) = vf at this
                  cases this with
                  | fn h1 h2 h3 h4 =>
                    rename_i us vs
                    have e1 : us = [] := by simpa using h1.symm
                    have e2 : vs = [] := by simpa using h2.symm
                    subst e1; subst e2; rfl
                exact noEscape_ok hext hfn (by simpa using hb) hn hfv (hE x (by simp [Op.operands, Call.operands, list1 hargs])) hW rfl (list1 hargs) _
              · cases hp
            · cases hp
        · cases hp
      | tmp t => simp only [prepIn] at hp; cases hp; cases h
      | const c => simp only [prepIn] at hp; cases hp; cases h
      | global g => simp only [prepIn] at hp; cases hp; cases h
  case defer c =>
    obtain ⟨callee, args, argTypes⟩ := c
    cases callee <;> simp only [prepIn] at hp <;> cases hp
    cases h
  case panic x => cases hp; cases h
  all_goals (exact absurd hp (by simp [prepIn]))

end Go.Abs
