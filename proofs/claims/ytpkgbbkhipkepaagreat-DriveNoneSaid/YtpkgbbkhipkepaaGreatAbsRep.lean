/-
  WHAT AN ABSTRACT VALUE STANDS FOR, AND WHEN AN ABSTRACT HEAP STANDS FOR A WORLD.
-/
import Derived.Test.YtpkgbbkhipkepaaGreatAbsPrep
import Derived.Laws.Sem
import Derived.Laws.World
import Derived.Below
namespace Go.Abs
open Go.RowKit

/-- Where things lie. It only grows. -/
structure Gh where
  loc : Nat → Nat → Option (Nat × Nat × Nat)     -- object, generation: block, first cell, end of its room
  mp : Nat → Option Nat                            -- an object that is no row: its block
  mem : Nat → Nat → Option Value                   -- cells that are never written again
  lt : Nat → Prop                                   -- the blocks of literals
  tk : Nat → Option (Nat × Nat × Nat)              -- a token: block, end of the elements, end of the capacity

structure Gh.le (G G' : Gh) : Prop where
  loc : ∀ o g x, G.loc o g = some x → G'.loc o g = some x
  mp : ∀ o x, G.mp o = some x → G'.mp o = some x
  mem : ∀ b k x, G.mem b k = some x → G'.mem b k = some x
  lt : ∀ b, G.lt b → G'.lt b
  tk : ∀ o x, G.tk o = some x → G'.tk o = some x

theorem Gh.le.refl (G : Gh) : G.le G := ⟨fun _ _ _ h => h, fun _ _ h => h, fun _ _ _ h => h, fun _ h => h, fun _ _ h => h⟩
theorem Gh.le.trans {A B C : Gh} (h : A.le B) (k : B.le C) : A.le C :=
  ⟨fun _ _ _ e => k.loc _ _ _ (h.loc _ _ _ e), fun _ _ e => k.mp _ _ (h.mp _ _ e), fun _ _ _ e => k.mem _ _ _ (h.mem _ _ _ e), fun _ e => k.lt _ (h.lt _ e), fun _ _ e => k.tk _ _ (h.tk _ _ e)⟩

def tkOk (G : Gh) (t : Tk) (b k n cap sz : Nat) : Prop :=
  match t with
  | .no => True
  | .full => cap = n
  | .lit => cap = n ∧ G.lt b
  | .t o => (cap = 0 ∧ n = 0) ∨ G.tk o = some (b, k + n * sz, k + cap * sz)

inductive Rep (G : Gh) : AV → Value → Prop where
  | lit {v : Value} : closedV v = true → Rep G (.lit v) v
  | ptr {o g k b s e : Nat} : G.loc o g = some (b, s, e) → Rep G (.ptr o g k) (.pointer (some ⟨b, s + k, none⟩))
  | itr {o r : Nat} : G.mp o = some r → Rep G (.itr o) (.pointer (some ⟨r, 0, none⟩))
  | ip {cs : List AV} {us : List Value} {b k : Nat} : cs.length = us.length → (∀ i (h : i < cs.length) (h' : i < us.length), Rep G cs[i] us[i]) → (∀ i (h : i < us.length), G.mem b (k + i) = some us[i]) →
      Rep G (.ip cs) (.pointer (some ⟨b, k, none⟩))
  | sl {t : Tk} {sz : Nat} {xs : List AV} {us : List Value} {b k cap : Nat} : (flat xs).length = us.length → (∀ x ∈ xs, x.cells.length = sz) → 
      (∀ i (h : i < (flat xs).length) (h' : i < us.length), Rep G (flat xs)[i] us[i]) → (∀ i (h : i < us.length), G.mem b (k + i) = some us[i]) → xs.length ≤ cap → tkOk G t b k xs.length cap sz →
      Rep G (.sl t sz xs) (.slice (some ⟨b, k, none⟩) xs.length cap)
  | dp {o : Nat} {cs : List AV} {us : List Value} {b e c : Nat} : G.tk o = some (b, e, c) → cs.length = us.length → (∀ i (h : i < cs.length) (h' : i < us.length), Rep G cs[i] us[i]) → (∀ i (h : i < us.length), G.mem b (0 + i) = some us[i]) →
      Rep G (.dp o cs) (.pointer (some ⟨b, 0, none⟩))
  | rs {o g sz off len b s e cap : Nat} : G.loc o g = some (b, s, e) → len ≤ cap → s + (off + cap) * sz = e → Rep G (.rs o g sz off len) (.slice (some ⟨b, s + off * sz, none⟩) len cap)
  | rs0 {o g sz off b k : Nat} {y : Nat × Nat × Nat} : G.loc o g = some y → Rep G (.rs o g sz off 0) (.slice (some ⟨b, k, none⟩) 0 0)
  | mp {o r : Nat} : G.mp o = some r → Rep G (.mp o) (.map (some r))
  | yld {o r : Nat} : G.mp o = some r → Rep G (.yld o) (.func (.yield r) #[] #[])
  | fn {f : FuncId} {as bs : List AV} {us vs : List Value} : as.length = us.length → bs.length = vs.length → (∀ i (h : i < as.length) (h' : i < us.length), Rep G as[i] us[i]) → (∀ i (h : i < bs.length) (h' : i < vs.length), Rep G bs[i] vs[i]) →
      Rep G (.fn f as bs) (.func (.func f) us.toArray vs.toArray)
  | ifc {t : TypeId} {x : AV} {v : Value} : Rep G x v → Rep G (.ifc t x) (.iface t v)
  | agg {cs : List AV} {us : List Value} : cs.length = us.length → (∀ i (h : i < cs.length) (h' : i < us.length), Rep G cs[i] us[i]) → Rep G (.agg cs) (.agg us.toArray)
  | tup {cs : List AV} {us : List Value} : cs.length = us.length → (∀ i (h : i < cs.length) (h' : i < us.length), Rep G cs[i] us[i]) → Rep G (.tup cs) (.tuple us.toArray)

/-- Lists, value by value. -/
def Reps (G : Gh) (cs : List AV) (us : List Value) : Prop := cs.length = us.length ∧ ∀ i (h : i < cs.length) (h' : i < us.length), Rep G cs[i] us[i]

theorem tkOk.mono {G G' : Gh} (hG : G.le G') {t : Tk} {b k n cap sz : Nat} (h : tkOk G t b k n cap sz) : tkOk G' t b k n cap sz := by
  cases t with
  | no => trivial
  | full => exact h
  | lit => exact ⟨h.1, hG.lt _ h.2⟩
  | t o => exact h.imp id (hG.tk _ _)

theorem Rep.mono {G G' : Gh} (hG : G.le G') {x : AV} {v : Value} (h : Rep G x v) : Rep G' x v := by
  induction h with
  | lit h => exact .lit h
  | ptr h => exact .ptr (hG.loc _ _ _ h)
  | itr h => exact .itr (hG.mp _ _ h)
  | ip hl _ hm ih => exact .ip hl ih (fun i h => hG.mem _ _ _ (hm i h))
  | dp ht hl _ hm ih => exact .dp (hG.tk _ _ ht) hl ih (fun i h => hG.mem _ _ _ (hm i h))
  | sl hl hs _ hm hc ht ih => exact .sl hl hs ih (fun i h => hG.mem _ _ _ (hm i h)) hc (ht.mono hG)
  | rs h h1 h2 => exact .rs (hG.loc _ _ _ h) h1 h2
  | rs0 h => exact .rs0 (hG.loc _ _ _ h)
  | mp h => exact .mp (hG.mp _ _ h)
  | yld h => exact .yld (hG.mp _ _ h)
  | fn h1 h2 _ _ ih1 ih2 => exact .fn h1 h2 ih1 ih2
  | ifc _ ih => exact .ifc ih
  | agg hl _ ih => exact .agg hl ih
  | tup hl _ ih => exact .tup hl ih

theorem Reps.mono {G G' : Gh} (hG : G.le G') {cs : List AV} {us : List Value} (h : Reps G cs us) : Reps G' cs us := ⟨h.1, fun i h1 h2 => (h.2 i h1 h2).mono hG⟩
theorem Reps.nil {G : Gh} : Reps G [] [] := ⟨rfl, fun _ h => absurd h (Nat.not_lt_zero _)⟩
theorem Reps.cons {G : Gh} {c : AV} {u : Value} {cs : List AV} {us : List Value} (h : Rep G c u) (hs : Reps G cs us) : Reps G (c :: cs) (u :: us) := by
  refine ⟨by simp [hs.1], fun i h1 h2 => ?_⟩
  cases i with
  | zero => exact h
  | succ i => exact hs.2 i (by simpa using h1) (by simpa using h2)
theorem Reps.head {G : Gh} {c : AV} {u : Value} {cs : List AV} {us : List Value} (h : Reps G (c :: cs) (u :: us)) : Rep G c u := h.2 0 (by simp) (by simp)
theorem Reps.tail {G : Gh} {c : AV} {u : Value} {cs : List AV} {us : List Value} (h : Reps G (c :: cs) (u :: us)) : Reps G cs us :=
  ⟨by simpa using h.1, fun i h1 h2 => h.2 (i + 1) (by simpa using h1) (by simpa using h2)⟩
theorem Reps.append {G : Gh} {as bs : List AV} {us vs : List Value} (h : Reps G as us) (k : Reps G bs vs) : Reps G (as ++ bs) (us ++ vs) := by
  refine ⟨by simp [h.1, k.1], fun i h1 h2 => ?_⟩
  have hl := h.1
  by_cases hi : i < as.length
  · rw [List.getElem_append_left hi, List.getElem_append_left (by omega)]
    exact h.2 i hi (by omega)
  · rw [List.getElem_append_right (by omega), List.getElem_append_right (by omega)]
    have : us.length = as.length := hl.symm
    simp only [this]
    exact k.2 _ _ _
theorem Reps.drop {G : Gh} {as : List AV} {us : List Value} (h : Reps G as us) (n : Nat) : Reps G (as.drop n) (us.drop n) := by
  refine ⟨by simp [h.1], fun i h1 h2 => ?_⟩
  simp only [List.getElem_drop]
  exact h.2 _ _ _
theorem Reps.take {G : Gh} {as : List AV} {us : List Value} (h : Reps G as us) (n : Nat) : Reps G (as.take n) (us.take n) := by
  refine ⟨by simp [h.1], fun i h1 h2 => ?_⟩
  simp only [List.getElem_take]
  exact h.2 _ _ _
theorem Reps.get? {G : Gh} {as : List AV} {us : List Value} (h : Reps G as us) {i : Nat} {x : AV} (hx : as[i]? = some x) : ∃ u, us[i]? = some u ∧ Rep G x u := by
  obtain ⟨hi, rfl⟩ := List.getElem?_eq_some_iff.1 hx
  exact ⟨us[i]'(by rw [← h.1]; exact hi), List.getElem?_eq_getElem _, h.2 i hi _⟩
theorem Reps.get?_none {G : Gh} {as : List AV} {us : List Value} (h : Reps G as us) {i : Nat} (hx : as[i]? = none) : us[i]? = none := by
  rw [List.getElem?_eq_none_iff] at *
  rw [← h.1]; exact hx
theorem Reps.getD {G : Gh} {as : List AV} {us : List Value} (h : Reps G as us) (i : Nat) {d : AV} {d' : Value} (hd : Rep G d d') : Rep G (as.getD i d) (us.getD i d') := by
  simp only [List.getD_eq_getElem?_getD]
  cases hx : as[i]? with
  | none => rw [h.get?_none hx]; exact hd
  | some x =>
    obtain ⟨u, hu, hr⟩ := h.get? hx
    rw [hu]; exact hr
theorem Reps.set {G : Gh} {as : List AV} {us : List Value} (h : Reps G as us) (i : Nat) {x : AV} {v : Value} (hx : Rep G x v) : Reps G (as.set i x) (us.set i v) := by
  refine ⟨by simp [h.1], fun j h1 h2 => ?_⟩
  simp only [List.getElem_set]
  split
  · exact hx
  · exact h.2 _ _ _
theorem Reps.replicate {G : Gh} {x : AV} {v : Value} (hx : Rep G x v) (n : Nat) : Reps G (List.replicate n x) (List.replicate n v) := by
  refine ⟨by simp, fun j h1 h2 => ?_⟩
  simp [hx]

/-- The cells of a value. -/
theorem Rep.cells {G : Gh} {x : AV} {v : Value} (h : Rep G x v) : Reps G x.cells v.cells.toList := by
  have one {x : AV} {v : Value} (h : Rep G x v) (h1 : x.cells = [x]) (h2 : v.cells = #[v]) : Reps G x.cells v.cells.toList := by
    rw [h1, h2]; exact Reps.cons h .nil
  cases h with
  | lit h =>
    refine one (.lit h) rfl ?_
    cases v <;> simp_all [closedV, Value.cells]
  | ptr h => exact one (.ptr h) rfl rfl
  | itr h => exact one (.itr h) rfl rfl
  | ip h1 h2 h3 => exact one (.ip h1 h2 h3) rfl rfl
  | sl h1 h2 h3 h4 h5 h6 => exact one (.sl h1 h2 h3 h4 h5 h6) rfl rfl
  | dp h1 h2 h3 h4 => exact one (.dp h1 h2 h3 h4) rfl rfl
  | rs h1 h2 h3 => exact one (.rs h1 h2 h3) rfl rfl
  | rs0 h => exact one (.rs0 h) rfl rfl
  | mp h => exact one (.mp h) rfl rfl
  | yld h => exact one (.yld h) rfl rfl
  | fn h1 h2 h3 h4 => exact one (.fn h1 h2 h3 h4) rfl rfl
  | ifc h => exact one (.ifc h) rfl rfl
  | agg h1 h2 => exact ⟨h1, h2⟩
  | tup h1 h2 => exact one (.tup h1 h2) rfl rfl

/-- The block of a live object. -/
def blkOf (G : Gh) (o : Nat) : AObj → Option Nat
  | .cells _ g _ _ => (G.loc o g).map (·.1)
  | .tok _ _ => (G.tk o).map (·.1)
  | .map _ _ | .iter _ _ | .loop .. | .dfr => G.mp o
  | .dead => none

/-- A number that stands for nothing as yet. -/
def Und (G : Gh) (o : Nat) : Prop := (∀ g, G.loc o g = none ∧ G.loc g (o + 1) = none) ∧ G.mp o = none ∧ G.tk o = none

/-- What is kept out: blocks that must not turn; numbers that are reserved. -/
structure Fr (P : Program) where
  K : Nat → Prop
  R : Nat → Prop
  M : Nat → Option (Nat → Option Value) := fun _ => none      -- of some of the blocks: which cells stay
  hM : ∀ b f, M b = some f → K b := by intro b f h; cases h

/-- The blocks of K are as they were. -/
structure Keeps (K : Nat → Prop) (w w' : World) : Prop where
  os : w'.os = w.os
  tape : w'.tape = w.tape
  output : w'.output = w.output
  size : w.heap.size ≤ w'.heap.size
  block : ∀ k, K k → w'.heap[k]? = w.heap[k]?

theorem Keeps.refl (K : Nat → Prop) (w : World) : Keeps K w w := ⟨rfl, rfl, rfl, Nat.le_refl _, fun _ _ => rfl⟩
theorem Keeps.trans {K : Nat → Prop} {a b c : World} (h : Keeps K a b) (k : Keeps K b c) : Keeps K a c :=
  ⟨k.os.trans h.os, k.tape.trans h.tape, k.output.trans h.output, Nat.le_trans h.size k.size, fun i hi => (k.block i hi).trans (h.block i hi)⟩
theorem Keeps.of_below {K : Nat → Prop} {B : Nat} {w w' : World} (h : Below B w w') (hK : ∀ b, K b → b < B) : Keeps K w w' := ⟨h.os, h.tape, h.output, h.size, fun k hk => h.block k (hK k hk)⟩
theorem Keeps.drew {K : Nat → Prop} {a w : World} (h : Keeps K a w) : Keeps K a w.drew := ⟨h.os, h.tape, h.output, h.size, h.block⟩

/-- A jump that is pending. -/
def pendC : Option ACode → Option (Option Code)
  | none => some none
  | some .ret => some (some .ret)
  | some (.exit id) => some (some (.exit id))
  | _ => none

/-- Code in a round, looked up. -/
def Coded (P : Program) (c : Code) (x : ACode) : Prop := (∃ ann, prepCode P ann c = some x) ∧ plainC x = true

/-- What is asked of an object. -/
def ObjOk {P : Program} (G : Gh) (w : World) (n0 : Fr P) (o : Nat) : AObj → Prop
  | .cells ty g fz cs => ∃ b s e C fr, G.loc o g = some (b, s, e) ∧ ¬ n0.K b ∧ w.heap[b]? = some (.cells C ty fr) ∧ e ≤ C.size ∧ s + cs.length ≤ e ∧
      (∀ i (h : i < cs.length) (h' : s + i < C.size), Rep G cs[i] C[s + i]) ∧ (∀ k, G.mem b k = none) ∧ (∀ k, s + fz ≤ k → k < e → ¬ (fr.1 ≤ k ∧ k < fr.2)) ∧ (g = 0 → s = 0)
  | .tok ty e0 => ∃ b e c C fr, G.tk o = some (b, e, c) ∧ ¬ n0.K b ∧ e ≤ c ∧ w.heap[b]? = some (.cells C ty fr) ∧ c ≤ C.size ∧ (∀ k, e ≤ k → G.mem b k = none) ∧ (∀ k, e ≤ k → k < c → ¬ (fr.1 ≤ k ∧ k < fr.2)) ∧
      (∀ m, e0 = some m → m = e ∧ (fr.1 = fr.2 ∨ fr.2 ≤ e))
  | .map es clock => ∃ r E, G.mp o = some r ∧ ¬ n0.K r ∧ w.heap[r]? = some (.map E clock) ∧ es.length = E.size ∧
      ∀ i (h : i < es.length) (h' : i < E.size), Rep G es[i].1 E[i].key ∧ Rep G es[i].2.1 E[i].val ∧ es[i].2.2 = E[i].born
  | .iter s pos => ∃ r, G.mp o = some r ∧ ¬ n0.K r ∧ w.heap[r]? = some (.stringIter s pos)
  | .loop st pd _ σ ps x y => ∃ r l, G.mp o = some r ∧ ¬ n0.K r ∧ w.heap[r]? = some (.loop l) ∧ l.state = st ∧ pendC pd = some l.pending ∧ Reps G σ l.tmps.toList ∧ l.params.toList = ps ∧ Coded P l.assign x ∧ Coded P l.body y
  | .dfr => ∃ r, G.mp o = some r ∧ ¬ n0.K r ∧ w.heap[r]? = some (.deferred (some []))
  | .dead => True

structure WRel {P : Program} (n0 : Fr P) (w0 : World) (G : Gh) (H : AH) (w : World) : Prop where
  below : Keeps n0.K w0 w
  size : ∀ b, n0.K b → b < w.heap.size
  mem : ∀ b k v, G.mem b k = some v → w.cell? ⟨b, k, none⟩ = some v
  obj : ∀ o x, H.get o = some x → ObjOk G w n0 o x
  sep : ∀ o o' x x' b, H.get o = some x → H.get o' = some x' → blkOf G o x = some b → blkOf G o' x' = some b → o = o'
  lt : ∀ b, G.lt b → (¬ n0.K b ∧ b < w.heap.size) ∧ ∀ o x, H.get o = some x → blkOf G o x ≠ some b
  fresh : ∀ o, H.get o = none → Und G o
  res : ∀ o, n0.R o → Und G o ∧ H.get o = some .dead
  bare : ∀ b f, n0.M b = some f → ∀ k, G.mem b k = f k

/-- The next number may be taken. -/
def Free {P : Program} (n0 : Fr P) (G : Gh) (H : AH) : Prop := Und G H.n ∧ ¬ n0.R H.n

end Go.Abs
