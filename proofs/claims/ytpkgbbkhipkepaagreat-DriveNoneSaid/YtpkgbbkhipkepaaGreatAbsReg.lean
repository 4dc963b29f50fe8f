/-
  A REGION THAT DRAWS ITS ORDER: the whole of it.
-/
import Derived.Test.YtpkgbbkhipkepaaGreatAbsChn
namespace Go.Abs
open Go.RowKit

variable {P : Program} {n0 n1 : Fr P} {w0 : World} {G G0 G' : Gh} {H H' H1 H1' : AH} {w w' : World} {σ : List AV} {v : AV}

/-- Which positions are listed. -/
def Tof (L : List AOper) (listed : Array Bool) (p : Nat) : Bool :=
  match L[p]? with
  | some o => listed.getD o.idx true
  | none => true

section
variable {ops : Array Oper} {ms : List Nat} {L : List AOper} {call : Caller} {base : Nat} {st : Nat → ASt} {hs : Nat → List AH} {val : Nat → AV} {mk : Nat → Option AObj} {T : Nat → Bool} {cp : Nat} {a : Act} {listed : Array Bool}

theorem Tof_some {p : Nat} {o : AOper} (hp : L[p]? = some o) : Tof L listed p = listed.getD o.idx true := by simp [Tof, hp]

theorem Tof_set (D : DrawS ops ms L) (hsz : listed.size = ops.size) (hidx : ∀ (p : Nat) (o : AOper), L[p]? = some o → o.idx < ops.size) {p : Nat} {o : AOper} (hp : L[p]? = some o) : Tof L (listed.setIfInBounds o.idx true) = plus (Tof L listed) p := by
  funext q
  unfold plus
  cases hq : L[q]? with
  | none => simp [Tof, hq]
  | some oq =>
    rw [Tof_some hq, Tof_some hq]
    have hlt := hidx p o hp
    by_cases hqp : q = p
    · subst hqp; rw [hp] at hq; cases hq
      simp [Array.getD_eq_getD_getElem?, hsz, hlt]
    · have : o.idx ≠ oq.idx := fun he => hqp (D.inj q p oq o hq hp he.symm)
      simp [Array.getD_eq_getD_getElem?, this, hqp]

theorem idx_lt (R : Dr P ops ms L call base st hs val mk) (p : Nat) (o : AOper) (hp : L[p]? = some o) : o.idx < ops.size := by
  obtain ⟨x, hx⟩ := R.looked p o hp
  exact (Array.getElem?_eq_some_iff.1 hx.at_).1

theorem ready_spec (R : Dr P ops ms L call base st hs val mk) {i : Nat} (hsz : listed.size = ops.size) (hI : InvD n0 w0 G0 ms L base st val mk (Tof L listed) cp G a w) (hi : i ∈ Region.ready .any ops listed) :
    ∃ (p : Nat) (o : AOper), L[p]? = some o ∧ o.idx = i ∧ Tof L listed p = false ∧ ∀ (q : Nat) (o' : AOper), L[q]? = some o' → (ms.getD o.idx 0).testBit o'.idx = true → Tof L listed q = true := by
  unfold Region.ready at hi
  simp only [List.mem_filter, List.mem_range, Bool.and_eq_true, Bool.not_eq_true'] at hi
  obtain ⟨h1, h2, h3⟩ := hi
  obtain ⟨p, o, hp, rfl⟩ := R.D.ex i h1
  obtain ⟨x, hx⟩ := R.looked p o hp
  rw [hx.at_] at h3
  simp only [Option.map_some, Option.getD_some, Array.all_eq_true_iff_forall_mem, Bool.or_eq_true, Bool.not_eq_true'] at h3
  have haf : ∀ k ∈ afters x, k < ops.size ∧ listed.getD k true = true := by
    intro k hk
    have hlt := R.D.lt o.idx x hx.at_ k hk
    refine ⟨hlt, ?_⟩
    unfold afters at hk
    simp only [List.mem_map, List.mem_filter, Array.mem_toList_iff] at hk
    obtain ⟨e, ⟨he, hb⟩, rfl⟩ := hk
    rcases h3 e he with h | h
    · rw [hb] at h; cases h
    · have : e.on < listed.size := by omega
      simp only [Array.getD_eq_getD_getElem?, Array.getElem?_eq_getElem this, Option.getD_some] at h ⊢
      exact h
  refine ⟨p, o, hp, rfl, by rw [Tof_some hp]; exact h2, fun q o' hq hb => ?_⟩
  obtain ⟨k, hk, hkj⟩ := R.D.clos o.idx x hx.at_ o'.idx hb
  obtain ⟨g1, g2⟩ := haf k hk
  rcases hkj with rfl | hkj
  · rw [Tof_some hq]; exact g2
  · obtain ⟨pk, ok, hpk, rfl⟩ := R.D.ex k g1
    exact hI.down pk ok hpk (by rw [Tof_some hpk]; exact g2) q o' hq hkj

theorem ready_nil (R : Dr P ops ms L call base st hs val mk) (hsz : listed.size = ops.size) (hn : Region.ready .any ops listed = []) : ∀ p, Tof L listed p = true := by
  intro p
  induction p using Nat.strongRecOn with
  | _ p ih =>
    cases hp : L[p]? with
    | none => simp [Tof, hp]
    | some o =>
      cases hT : Tof L listed p with
      | true => rfl
      | false =>
        exfalso
        obtain ⟨x, hx⟩ := R.looked p o hp
        have : o.idx ∈ Region.ready .any ops listed := by
          unfold Region.ready
          simp only [List.mem_filter, List.mem_range, Bool.and_eq_true, Bool.not_eq_true']
          refine ⟨idx_lt R p o hp, by rw [← Tof_some hp]; exact hT, ?_⟩
          rw [hx.at_]
          simp only [Option.map_some, Option.getD_some, Array.all_eq_true_iff_forall_mem, Bool.or_eq_true, Bool.not_eq_true']
          intro e he
          cases hb : Region.binds .any e with
          | false => exact .inl rfl
          | true =>
            right
            have hk : e.on ∈ afters x := by
              unfold afters
              simp only [List.mem_map, List.mem_filter, Array.mem_toList_iff]
              exact ⟨e, ⟨he, hb⟩, rfl⟩
            have hlt := R.D.lt o.idx x hx.at_ _ hk
            obtain ⟨q, o', hq, hoq, he'⟩ := R.D.pred p o hp e.on hlt (R.D.mem o.idx x hx.at_ _ hk)
            have := ih q hq
            rw [Tof_some hoq, he'] at this
            have h9 : e.on < listed.size := by omega
            simp only [Array.getD_eq_getD_getElem?, Array.getElem?_eq_getElem h9, Option.getD_some] at this ⊢
            exact this
        rw [hn] at this
        cases this

/-- All are listed: the canonical run's end. -/
theorem all_listed (hcall : CallOk P call) (R : Dr P ops ms L call base st hs val mk) (hI : InvD n0 w0 G0 ms L base st val mk T cp G a w) (hall : ∀ p, T p = true) : StOk n0 w0 G0 (st L.length) a w := by
  have hle := hI.le
  have hno : ∀ (q : Nat) (oq : AOper), cp ≤ q → q < L.length → L[q]? = some oq → oq.op.chain = false := fun q oq h1 h2 h3 => by
    cases hcq : oq.op.chain with
    | false => rfl
    | true => have := (hI.chain q oq h3 hcq).1 (hall q); omega
  have hbt := canon_between R.D.inj R.tr (cp := cp) (L.length - cp) (by omega) (fun q oq e1 e2 e3 => hno q oq e1 (by omega) e3)
  have hbn := canon_between_n R (cp := cp) (L.length - cp) (by omega) (fun q oq e1 e2 e3 => hno q oq e1 (by omega) e3)
  rw [show cp + (L.length - cp) = L.length by omega] at hbt hbn
  have hHS : HS L base mk (fun q => decide (q < L.length)) cp (st cp).H = HS L base mk T cp (st cp).H := by
    unfold HS
    rw [hsF_congr (T' := T)]
    intro p o y hp _ _
    have : p < L.length := (List.getElem?_eq_some_iff.1 hp).1
    rw [hall p]; simp [this]
  rw [hHS] at hbt
  refine ⟨G, hI.g, ?_, ?_, by rw [hbn.2]; exact hI.defs, (canon hcall R L.length (Nat.le_refl _)).1⟩
  · have hW : WRel (n0.withR (KeptR n0 L base T)) w0 G (st L.length).H w := hI.rel.ext hbt
    have := hW.withR (R := n0.R) fun o ho => hW.res o (.inl ho)
    exact this
  · have hlen : (st L.length).σ.length = (st 0).σ.length := by
      have : ∀ p, p ≤ L.length → (st p).σ.length = (st 0).σ.length := by
        intro p
        induction p with
        | zero => intro _; rfl
        | succ p ih =>
          intro hp
          obtain ⟨o, ho⟩ : ∃ o, L[p]? = some o := ⟨L[p], List.getElem?_eq_getElem (by omega)⟩
          rw [(R.tr p o ho).put]
          cases o.dst <;> simp [put, ih (by omega)]
      exact this _ (Nat.le_refl _)
    refine ⟨by rw [hlen, ← hI.size]; simp, fun i h1 h2 => ?_⟩
    have hts : i < a.tmps.size := by simpa using h2
    have e1 := (look_prefix R.tr i (by rw [← hI.size]; exact hts) L.length (Nat.le_refl _)).2
    have e2 : look L val (st 0).σ (fun q => decide (q < L.length)) i = look L val (st 0).σ T i := by
      refine look_congr fun q o hq _ => ?_
      have : q < L.length := (List.getElem?_eq_some_iff.1 hq).1
      rw [hall q]; simp [this]
    have := hI.tmps i hts
    rw [← e2, ← e1] at this
    simpa [List.getD_eq_getElem?_getD, List.getElem?_eq_getElem h1, Array.getD_eq_getD_getElem?, hts] using this

theorem any_ok (hext : ExtOk P) (hcall : CallOk P call) (R : Dr P ops ms L call base st hs val mk) {r : Option Nat} (hr : r = none ∨ ∀ o ∈ L, ∀ f as, o.op ≠ .defer f as) {n : Nat} {Q : Exit → Act → World → Prop} (hQ : ∀ a w, StOk n0 w0 G0 (st L.length) a w → Q .normal a w) :
    ∀ (fuel : Nat) (listed : Array Bool) (cp : Nat) (G : Gh) (a : Act) (w : World), listed.size = ops.size → listed.toList.count false ≤ fuel → InvD n0 w0 G0 ms L base st val mk (Tof L listed) cp G a w → wpAnyIn (Wd r) n P .any ops Q fuel listed a w := by
  intro fuel
  induction fuel with
  | zero =>
    intro listed cp G a w hsz hcount hI
    have hn : Region.ready .any ops listed = [] := by
      cases hr : Region.ready .any ops listed with
      | nil => rfl
      | cons i is =>
        obtain ⟨p, o, hp, _, hT, _⟩ := ready_spec R hsz hI (i := i) (by rw [hr]; simp)
        have hlt := idx_lt R p o hp
        rw [Tof_some hp] at hT
        have h9 : o.idx < listed.size := by omega
        simp only [Array.getD_eq_getD_getElem?, Array.getElem?_eq_getElem h9, Option.getD_some] at hT
        have : false ∈ listed.toList := by
          rw [← hT]; simp
        have := List.count_pos_iff.2 this
        omega
    exact ⟨hn, hQ a w (all_listed hcall R hI (ready_nil R hsz hn))⟩
  | succ fuel ih =>
    intro listed cp G a w hsz hcount hI
    refine ⟨fun hn => hQ a w (all_listed hcall R hI (ready_nil R hsz hn)), fun i hi => ?_⟩
    obtain ⟨p, o, hp, rfl, hT, hready⟩ := ready_spec R hsz hI hi
    have hlt := idx_lt R p o hp
    have hset := Tof_set (listed := listed) R.D hsz (idx_lt R) hp
    have hcount' : (listed.setIfInBounds o.idx true).toList.count false ≤ fuel := by
      have h9 : o.idx < listed.toList.length := by simp; omega
      have hT2 := hT
      rw [Tof_some hp] at hT2
      have h10 : o.idx < listed.size := by omega
      simp only [Array.getD_eq_getD_getElem?, Array.getElem?_eq_getElem h10, Option.getD_some] at hT2
      rw [Array.toList_setIfInBounds, List.count_set h9]
      have e1 : (listed.toList[o.idx] == false) = true := by simp [hT2]
      rw [e1]
      simp only [if_true, show ((true == false) = true) = False by simp, if_false]
      omega
    cases hc : o.op.chain with
    | false =>
      refine wpOpIn_mono (fun a' w' => ?_) (silent_step hext hcall R hI hp hT hready hc)
      rintro ⟨G', hI'⟩
      exact ih _ cp G' a' w' (by simpa using hsz) hcount' (by rw [hset]; exact hI')
    | true =>
      refine wpOpIn_mono (fun a' w' => ?_) (chain_step hext hcall R hI hp hT hready hc (hr.imp id fun h => h o (List.mem_of_getElem? hp)))
      rintro ⟨G', hI'⟩
      exact ih _ (p + 1) G' a' w' (by simpa using hsz) hcount' (by rw [hset]; exact hI')

end

/-! ### The order that is looked up -/
theorem lazy_mem {ms : List Nat} : ∀ (cs todo : List AOper) (o : AOper), (∀ c ∈ cs, c ∈ todo ∨ True) → o ∈ lazy ms cs todo → o ∈ todo ∨ o ∈ cs := by
  intro cs
  induction cs with
  | nil => intro todo o _ h; exact .inl h
  | cons c cs ih =>
    intro todo o _ h
    simp only [lazy, List.mem_append, List.mem_singleton] at h
    rcases h with (h | h) | h
    · exact .inl (List.mem_filter.1 h).1
    · subst h; exact .inr (by simp)
    · rcases ih _ o (fun _ _ => .inr trivial) h with h | h
      · exact .inl (List.mem_filter.1 h).1
      · exact .inr (List.mem_cons_of_mem _ h)

theorem setBack_mem {ms : List Nat} : ∀ (l : List AOper) (seen : List Nat) (o : AOper), o ∈ setBack ms l seen → ∃ o' ∈ l, ∃ b, o = { o' with back := b } := by
  intro l
  induction l with
  | nil => intro seen o h; cases h
  | cons x l ih =>
    intro seen o h
    simp only [setBack, List.mem_cons] at h
    rcases h with h | h
    · exact ⟨x, by simp, _, h⟩
    · obtain ⟨o', h1, h2⟩ := ih _ o h
      exact ⟨o', List.mem_cons_of_mem _ h1, h2⟩

theorem prepDraw_spec {ann : Nat → Nat} {ops : Array Oper} {L : List AOper} (h : prepDraw P ann ops = some L) : ∃ ms, DrawS ops ms L ∧ ∀ ao ∈ L, ∃ o, Looked P ops ao.idx ao o := by
  unfold prepDraw at h
  split at h
  · rename_i l hl
    dsimp only at h
    split at h
    · rename_i hok
      cases h
      refine ⟨_, drawOk_spec hok, fun ao hao => ?_⟩
      obtain ⟨o', h1, b, rfl⟩ := setBack_mem _ _ _ hao
      have h2 : o' ∈ l := by
        rcases lazy_mem _ _ o' (fun _ _ => .inr trivial) h1 with h | h
        · exact h
        · exact (List.mem_filter.1 h).1
      obtain ⟨j, hj, rfl⟩ := List.getElem_of_mem h2
      obtain ⟨_, hlk⟩ := prepOps_looked ops.toList 0 l hl (fun j o hj => by simpa using hj)
      obtain ⟨o, ho⟩ := hlk j l[j] (List.getElem?_eq_getElem hj)
      have hidx := ho.idx
      rw [Nat.zero_add] at ho hidx
      refine ⟨o, ⟨by rw [hidx]; exact ho.at_, ho.dst, ho.op, ho.guard, rfl⟩⟩
    · cases h
  · cases h

/-! ### Numbers that are reserved -/
theorem reserve_spec : ∀ (k : Nat) (H : AH), WF H → (reserve k H).n = H.n + k ∧ WF (reserve k H) ∧ (∀ o, o < H.n → (reserve k H).get o = H.get o) ∧ ∀ o, H.n ≤ o → o < H.n + k → (reserve k H).get o = some .dead := by
  intro k
  induction k with
  | zero => intro H h; exact ⟨rfl, h, fun _ _ => rfl, fun o h1 h2 => by omega⟩
  | succ k ih =>
    intro H h
    have hw := (ext_push h.next AObj.dead).wf h
    obtain ⟨h1, h2, h3, h4⟩ := ih (H.push .dead) hw
    simp only [AH.n_push] at h1 h3 h4
    refine ⟨by rw [reserve, h1]; omega, h2, fun o ho => ?_, fun o ho1 ho2 => ?_⟩
    · rw [reserve, h3 o (by omega), AH.get_push, if_neg (by omega)]
    · by_cases ho : o = H.n
      · rw [reserve, h3 o (by omega), AH.get_push, if_pos ho]
      · rw [reserve]; exact h4 o (by omega) (by omega)

theorem WRel.reserve : ∀ (k : Nat) (H : AH), WF H → WRel n0 w0 G H w → WRel n0 w0 G (reserve k H) w := by
  intro k
  induction k with
  | zero => intro H _ h; exact h
  | succ k ih =>
    intro H hw h
    exact ih _ ((ext_push hw.next AObj.dead).wf hw) (h.push_dead (h.free hw.next))

/-- A region that draws its order. -/
theorem region_draw (hext : ExtOk P) (hmix : P.follows .mixedOrders = true) {call : Caller} (hcall : CallOk P call) {r : Option Nat} {n : Nat} {id : Nat} {ops : Array Oper} {ann : Nat → Nat} {L : List AOper} {Q : Exit → Act → World → Prop} (hp : prepDraw P ann ops = some L)
    (hr : r = none ∨ ∀ ao ∈ L, ∀ f as, ao.op ≠ .defer f as) {s s' : ASt} {a : Act} (hs : StOk n0 w0 G0 s a w) (h : evalDraw call s.H.n L { s with H := reserve (slots L) s.H } [] = some s') (hQ : ∀ a w, StOk n0 w0 G0 s' a w → Q .normal a w) :
    (Code.region id ops true).wpIn (Wd r) n P Q a w := by
  obtain ⟨G, h0, hW, hT, hD, hwf⟩ := hs
  obtain ⟨ms, D, hlk⟩ := prepDraw_spec hp
  obtain ⟨st, hs, val, mk, e1, e2, e3, e4⟩ := evalDraw_trace L _ _ _ h
  obtain ⟨r1, r2, r3, r4⟩ := reserve_spec (slots L) s.H hwf
  have hlooked : ∀ (p : Nat) (ao : AOper), L[p]? = some ao → ∃ o, Looked P ops ao.idx ao o := fun p ao hp => hlk ao (List.mem_of_getElem? hp)
  have hslots : (L.any (·.op.makes)) = true → slots L = L.length := fun h => by simp [slots, h]
  have hsl : (L.any (·.op.makes)) = true → ∀ (p : Nat) (o : AOper), L[p]? = some o → s.H.n + o.idx < s.H.n + slots L := fun h p o hp => by
    obtain ⟨x, hx⟩ := hlooked p o hp
    have := (Array.getElem?_eq_some_iff.1 hx.at_).1
    rw [hslots h, D.len]
    omega
  have R : Dr P ops ms L call s.H.n st hs val mk := ⟨D, hlooked, e4, e2, by rw [e1]; exact r2, fun h p o hp => by
    have := hsl h p o hp
    rw [e1]
    exact ⟨by show _ < (reserve _ _).n; rw [r1]; exact this, r4 _ (by omega) this⟩⟩
  refine wpIn_region_any hmix ?_
  have hidx : ∀ (p : Nat) (o : AOper), L[p]? = some o → Tof L (Array.replicate ops.size false) p = false := fun p o hp => by
    rw [Tof_some hp]
    have := idx_lt R p o hp
    simp [Array.getD_eq_getD_getElem?, this]
  have hI : InvD n0 w0 G0 ms L s.H.n st val mk (Tof L (Array.replicate ops.size false)) 0 G a w.drew := by
    have hHS : ∀ z, (HS L s.H.n mk (Tof L (Array.replicate ops.size false)) 0 (st 0).H).get z = (reserve (slots L) s.H).get z := by
      intro z
      rw [HS_other, e1]
      intro p o y hp _ hTp
      rw [hidx p o hp] at hTp; cases hTp
    refine ⟨Nat.zero_le _, fun p o hp _ => ?_, fun p hp => absurd hp (Nat.not_lt_zero _), fun p o hp hTp => ?_, h0, ?_, ?_, fun t ht => ?_, ?_, fun hm p o hp hR => ?_⟩
    · rw [hidx p o hp]; simp
    · rw [hidx p o hp] at hTp; cases hTp
    · have hW1 : WRel n0 w0 G (reserve (slots L) s.H) w.drew := (WRel.reserve _ _ hwf hW).drew
      refine WRel.withR (hW1.ext hHS) ?_
      rintro z (hz | ⟨hm, p, o, hp, _, rfl⟩)
      · rw [hHS]; exact hW1.res z hz
      · have := hsl hm p o hp
        rw [hHS]
        exact ⟨hW.fresh _ (hwf _ (by omega)), r4 _ (by omega) this⟩
    · rw [e1]; have := hT.1; simp at this; exact this.symm
    · have : look L val (st 0).σ (Tof L (Array.replicate ops.size false)) t = (st 0).σ.getD t .und := by
        unfold look
        rw [foldl_none]
        intro p _ o hp hTp
        rw [hidx p o hp] at hTp; cases hTp
      rw [this, e1]
      have := hT.getD t (d := .und) (d' := undef) rep_und
      simpa [List.getD_eq_getElem?_getD, Array.getD_eq_getD_getElem?] using this
    · rw [e1]; exact hD
    · have := (hW.res _ hR).2
      rw [hwf _ (by omega)] at this
      cases this
  exact any_ok hext hcall R hr (by rw [e3]; exact hQ) ops.size _ 0 G a _ (by simp) (by simp) hI

end Go.Abs
