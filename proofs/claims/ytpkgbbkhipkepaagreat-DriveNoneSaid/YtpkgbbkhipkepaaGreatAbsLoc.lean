/-
  WHAT AN OPERATION READS OF THE HEAP, AND WHAT IT LEAVES AS IT WAS.
-/
import Derived.Test.YtpkgbbkhipkepaaGreatAbsSimO
namespace Go.Abs
open Go.RowKit

variable {G : Gh} {H H' H1 H2 : AH} {σ : List AV} {v : AV}

theorem named_und {x : AV} {u : Value} {o : Nat} (hx : Rep G x u) (hn : named x = some o) : ¬ Und G o := by
  rintro ⟨h1, h2, h3⟩
  cases hx <;> simp only [named, Option.some.injEq, reduceCtorEq] at hn
  · subst hn; rename_i h; rw [(h1 _).1] at h; cases h
  · subst hn; rename_i h _ _; rw [(h1 _).1] at h; cases h
  · subst hn; rename_i h; rw [(h1 _).1] at h; cases h
  · subst hn; rename_i h; rw [h2] at h; cases h

/-- What is there in the one heap is there in the other, at one object. -/
def Has (H1 H2 : AH) (x : AV) : Prop := ∀ o y, named x = some o → H1.get o = some y → y ≠ .dead → H2.get o = some y

theorem elems_has {x : AV} {xs : List AV} (hh : Has H1 H2 x) (h : elems H1 x = some xs) : elems H2 x = some xs := by
  unfold elems at h ⊢
  split at h
  · exact h
  · exact h
  · rename_i o g sz off len
    split at h
    · rename_i ty g' fz cs hg
      rw [hh o _ rfl hg (by simp)]
      exact h
    · cases h
  · cases h

theorem load_has {x : AV} {n : Option Nat} {r : AV} (hh : Has H1 H2 x) (h : loadFrom H1 x n = some r) : loadFrom H2 x n = some r := by
  unfold loadFrom at h ⊢
  split at h
  · rename_i o g k
    split at h
    · rename_i ty g' fz cs hg
      rw [hh o _ rfl hg (by simp)]
      exact h
    · cases h
  · exact h
  · cases h

theorem aslice_has {k : Option Nat} {x : AV} {lo : Nat} {hi mx : Option Nat} {r : AV} (hh : Has H1 H2 x) (h : aslice H1 k x lo hi mx = some r) : aslice H2 k x lo hi mx = some r := by
  unfold aslice at h ⊢
  split at h
  · exact h
  · exact h
  · exact h
  · rename_i sz0 o g sz off len
    split at h
    · rename_i ty g' fz cs hg
      rw [hh o _ rfl hg (by simp)]
      exact h
    · cases h
  · cases h

/-- A silent operation that makes nothing: it leaves the heap, and only the objects named count. -/
theorem aop_local {op : AOp} (hc : op.chain = false) (hm : op.makes = false) (hh : ∀ x ∈ op.reads, Has H1 H2 (evalO σ x)) (h : aop σ H1 op = some (v, H')) : H' = H1 ∧ aop σ H2 op = some (v, H2) := by
  cases op <;> simp only [AOp.chain, AOp.makes, Bool.true_eq_false] at hc hm
  case move x => cases h; exact ⟨rfl, rfl⟩
  case pick c a b =>
    simp only [aop] at h ⊢
    split at h
    · cases h; exact ⟨rfl, by simp [*]⟩
    · cases h; exact ⟨rfl, by simp [*]⟩
    · cases h
  case build z ps =>
    simp only [aop] at h ⊢
    cases ha : afill z (ps.map fun (o, s, x) => (o, s, evalO σ x)) with
    | none => simp [ha] at h
    | some cs =>
      simp [ha] at h ⊢
      exact ⟨h.2.symm, h.1⟩
  case bslice ref ty sz len z ps =>
    subst hm
    simp only [aop] at h ⊢
    split at h
    · rename_i hz
      rw [if_pos hz]
      split at h
      · rename_i cs hcs
        simp only [Bool.false_eq_true, if_false] at h ⊢
        split at h
        · rename_i ha; cases h; rw [if_pos ha]; exact ⟨rfl, rfl⟩
        · cases h
      · cases h
    · cases h
  case load n a =>
    simp only [aop] at h ⊢
    cases hl : loadFrom H1 (evalO σ a) n with
    | none => simp [hl] at h
    | some r =>
      simp [hl] at h
      rw [load_has (hh a (by simp [AOp.reads])) hl]
      simp [h.1, h.2]
  case nilCheck x =>
    simp only [aop] at h ⊢
    split at h
    · cases h
    · cases h
    · cases h
    · cases h
      exact ⟨rfl, rfl⟩
  case bin op e x y =>
    simp only [aop] at h ⊢
    cases ha : abin op e (evalO σ x) (evalO σ y) with
    | none => simp [ha] at h
    | some r => simp [ha] at h ⊢; exact ⟨h.2.symm, h.1⟩
  case un op x =>
    simp only [aop] at h ⊢
    cases ha : aun op (evalO σ x) with
    | none => simp [ha] at h
    | some r => simp [ha] at h ⊢; exact ⟨h.2.symm, h.1⟩
  case convInt k x =>
    simp only [aop] at h ⊢
    split at h
    · cases h; exact ⟨rfl, by simp [*]⟩
    · cases h
  case convId x =>
    simp only [aop] at h ⊢
    split at h
    · cases h; exact ⟨rfl, by simp [*]⟩
    · cases h
  case convBS x =>
    simp only [aop] at h ⊢
    split at h
    · rename_i xs hxs
      rw [elems_has (hh x (by simp [AOp.reads])) hxs]
      cases hb : toBytes? xs with
      | none => simp [hb] at h
      | some bs => simp [hb] at h ⊢; exact ⟨h.2.symm, h.1⟩
    · cases h
  case convSame x =>
    simp only [aop] at h ⊢
    split at h
    · cases h; exact ⟨rfl, by simp [*]⟩
    · cases h
  case convUP ty sz x =>
    have hx := hh x (by simp [AOp.reads])
    simp only [aop] at h ⊢
    split at h
    · rename_i o g he
      rw [he] at hx
      split at h
      · rename_i ty' g' fz cs hg
        split at h
        · rename_i hc2
          cases h
          simp only [hx o _ rfl hg (by simp), if_pos hc2]
          first | exact ⟨rfl, rfl⟩ | exact ⟨rfl, trivial⟩ | simp
        · cases h
      · cases h
    · cases h
  case mkIface t x => cases h; exact ⟨rfl, rfl⟩
  case mkFunc f a b => cases h; exact ⟨rfl, rfl⟩
  case slice k x lo hi mx =>
    have hx := hh x (by simp [AOp.reads])
    simp only [aop] at h ⊢
    split at h
    · rename_i l hl
      try rw [hl]
      try dsimp only
      split at h
      · cases ha : aslice H1 k (evalO σ x) l none none with
        | none => simp [ha] at h
        | some r => simp [ha] at h; rw [aslice_has hx ha]; simp [h.1, h.2]
      · split at h
        · rename_i m hm
          try rw [hm]
          try dsimp only
          cases ha : aslice H1 k (evalO σ x) l (some m) none with
          | none => simp [ha] at h
          | some r => simp [ha] at h; rw [aslice_has hx ha]; simp [h.1, h.2]
        · cases h
      · split at h
        · rename_i m m2 hm hm2
          try rw [hm, hm2]
          try dsimp only
          cases ha : aslice H1 k (evalO σ x) l (some m) (some m2) with
          | none => simp [ha] at h
          | some r => simp [ha] at h; rw [aslice_has hx ha]; simp [h.1, h.2]
        · cases h
      · cases h
    · cases h
  case fieldAddr off x =>
    simp only [aop] at h ⊢
    split at h
    · cases h; exact ⟨rfl, by simp [*]⟩
    · cases h; exact ⟨rfl, by simp [*]⟩
    · cases h
  case field n off x =>
    simp only [aop] at h ⊢
    split at h
    · rename_i cs he
      try rw [he]
      cases n with
      | none =>
        dsimp only at h ⊢
        cases hc2 : cs[off]? with
        | none => simp [hc2] at h
        | some r => simp [hc2] at h ⊢; exact ⟨h.2.symm, h.1⟩
      | some m =>
        dsimp only at h ⊢
        split at h
        · rename_i hc2; cases h; rw [if_pos hc2]; exact ⟨rfl, rfl⟩
        · cases h
    · cases h
  case indexAddr sz x i =>
    have hx := hh x (by simp [AOp.reads])
    simp only [aop] at h ⊢
    split at h
    · rename_i hi he
      try rw [hi, he]
      try dsimp only
      split at h
      · rename_i hsz
        rw [if_pos hsz]
        rename_i n t' sz' xs
        cases hg : xs[n]? with
        | none => simp [hg] at h
        | some r => simp [hg] at h ⊢; exact ⟨h.2.symm, h.1⟩
      · cases h
    · rename_i n o g sz' off len hi he
      rw [he] at hx
      try rw [hi, he]
      try dsimp only
      split at h
      · rename_i ty g' fz cs hg
        split at h
        · rename_i hc2
          cases h
          simp only [hx o _ rfl hg (by simp), if_pos hc2]
          first | exact ⟨rfl, rfl⟩ | exact ⟨rfl, trivial⟩ | simp
        · cases h
      · cases h
    · cases h
  case index x i =>
    simp only [aop] at h ⊢
    split at h
    · rename_i hi he
      try rw [hi, he]
      try dsimp only
      split at h
      · rename_i hb; cases h; try rw [hb]
        exact ⟨rfl, rfl⟩
      · cases h
    · cases h
  case lookup kk z ok x i =>
    have hx := hh x (by simp [AOp.reads])
    simp only [aop] at h ⊢
    split at h
    · rename_i hk
      rw [if_pos hk]
      split at h
      · rename_i he
        simp only [Option.some.injEq, Prod.mk.injEq] at h
        try rw [he]
        exact ⟨h.2.symm, by simp [h.1]⟩
      · rename_i o he
        rw [he] at hx; try rw [he]
        try dsimp only
        split at h
        · rename_i es clock hg
          rw [hx o _ rfl hg (by simp)]
          try dsimp only
          split at h
          · rename_i hf
            simp only [Option.some.injEq, Prod.mk.injEq] at h
            try rw [hf]
            exact ⟨h.2.symm, by simp [h.1]⟩
          · rename_i hf
            simp only [Option.some.injEq, Prod.mk.injEq] at h
            try rw [hf]
            exact ⟨h.2.symm, by simp [h.1]⟩
          · cases h
        · cases h
      · cases h
    · cases h
  case extract i x =>
    simp only [aop] at h ⊢
    split at h
    · rename_i vs he
      try rw [he]
      try dsimp only
      cases hg : vs[i]? with
      | none => simp [hg] at h
      | some r => simp [hg] at h ⊢; exact ⟨h.2.symm, h.1⟩
    · cases h
  case typeIs t ok z x =>
    simp only [aop] at h ⊢
    split at h
    · rename_i he
      try rw [he]
      try dsimp only
      split at h
      · rename_i hok; cases h; rw [if_pos hok]; exact ⟨rfl, rfl⟩
      · cases h
    · rename_i u r he
      try rw [he]
      try dsimp only
      split at h
      · rename_i hu
        simp only [Option.some.injEq, Prod.mk.injEq] at h
        rw [if_pos hu]
        exact ⟨h.2.symm, by simp [h.1]⟩
      · rename_i hu
        rw [if_neg hu]
        split at h
        · rename_i hok; cases h; rw [if_pos hok]; exact ⟨rfl, rfl⟩
        · cases h
    · cases h
  case len k x =>
    have hx := hh x (by simp [AOp.reads])
    simp only [aop] at h ⊢
    split at h
    · rename_i he; cases h; try rw [he]
      exact ⟨rfl, rfl⟩
    · cases hl : lenOf (evalO σ x) with
      | none => simp [hl] at h
      | some n => simp [hl] at h ⊢; exact ⟨h.2.symm, h.1⟩
    · rename_i o he
      rw [he] at hx; try rw [he]
      try dsimp only
      split at h
      · rename_i es clock hg
        cases h
        rw [hx o _ rfl hg (by simp)]
        exact ⟨rfl, rfl⟩
      · cases h
    · rename_i he; cases h; try rw [he]
      exact ⟨rfl, rfl⟩
    · cases h
  case capn x =>
    simp only [aop] at h ⊢
    split at h
    · cases h; exact ⟨rfl, by simp [*]⟩
    · cases h; exact ⟨rfl, by simp [*]⟩
    · cases h; exact ⟨rfl, by simp [*]⟩
    · cases h
  case min xs =>
    simp only [aop] at h ⊢
    split at h
    · rename_i he
      try rw [he]
      try dsimp only
      split at h
      · rename_i hk; cases h; rw [if_pos hk]; exact ⟨rfl, rfl⟩
      · cases h
    · cases h
  case max xs =>
    simp only [aop] at h ⊢
    split at h
    · rename_i he
      try rw [he]
      try dsimp only
      split at h
      · rename_i hk; cases h; rw [if_pos hk]; exact ⟨rfl, rfl⟩
      · cases h
    · cases h
  case noEscape x => cases h; exact ⟨rfl, rfl⟩

/-- An operation that makes an object: what it makes does not hang on the heap. -/
theorem aop_makes {op : AOp} (hm : op.makes = true) (h : aop σ H1 op = some (v, H')) : ∃ y, H' = H1.push y ∧ ∀ H2 : AH, H2.n = H1.n → aop σ H2 op = some (v, H2.push y) := by
  cases op <;> simp only [AOp.makes, Bool.false_eq_true] at hm
  case alloc ty z => cases h; exact ⟨_, rfl, fun H2 hn => by simp [aop, hn]⟩
  case box ty x => cases h; exact ⟨_, rfl, fun H2 hn => by simp [aop, hn]⟩
  case mkMap => cases h; exact ⟨_, rfl, fun H2 hn => by simp [aop, hn]⟩
  case bslice ref ty sz len z ps =>
    subst hm
    simp only [aop] at h ⊢
    split at h
    · rename_i hz
      split at h
      · rename_i cs hcs
        simp only [if_true] at h
        cases h
        exact ⟨_, rfl, fun H2 hn => by simp [hz, hn]⟩
      · cases h
    · cases h
  case mkSlice ty sz bytes z l c =>
    simp only [aop] at h ⊢
    split at h
    · rename_i n m hn hm2
      split at h
      · rename_i hc
        cases h
        exact ⟨_, rfl, fun H2 h2 => by rw [if_pos hc, h2]⟩
      · cases h
    · cases h
  case range str x =>
    simp only [aop] at h ⊢
    split at h
    · rename_i he
      cases h
      exact ⟨_, rfl, fun H2 h2 => by rw [h2]⟩
    · cases h
  case convSB ty x =>
    simp only [aop] at h ⊢
    split at h
    · rename_i s he
      split at h
      · rename_i hs
        cases h
        exact ⟨_, rfl, fun H2 h2 => by rw [if_pos hs, h2]⟩
      · cases h
    · cases h

end Go.Abs
