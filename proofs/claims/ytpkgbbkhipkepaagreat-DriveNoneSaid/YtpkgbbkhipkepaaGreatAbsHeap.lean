/-
  HOW THE RELATION BETWEEN ABSTRACT HEAP AND WORLD IS KEPT: a new object; a new row; a store; an append in place.
-/
import Derived.Test.YtpkgbbkhipkepaaGreatAbsRep
namespace Go.Abs
open Go.RowKit

variable {P : Program} {n0 : Fr P} {w0 : World} {G G' : Gh} {H : AH} {w w' : World}

theorem ObjOk.blk {x : AObj} {o : Nat} (h : ObjOk G w n0 o x) (hd : ∃ G' b, blkOf G' o x = some b) : ∃ b, blkOf G o x = some b ∧ ¬ n0.K b ∧ b < w.heap.size := by
  have lt {b : Nat} {x : Obj} (h : w.heap[b]? = some x) : b < w.heap.size := by
    rcases Nat.lt_or_ge b w.heap.size with h' | h'
    · exact h'
    · rw [Array.getElem?_eq_none h'] at h; cases h
  cases x with
  | cells ty g fz cs =>
    obtain ⟨b, s, e, C, fr, h1, h2, h3, _⟩ := h
    exact ⟨b, by simp [blkOf, h1], h2, lt h3⟩
  | tok ty e0 =>
    obtain ⟨b, e, c, C, fr, h1, h2, _, h3, _⟩ := h
    exact ⟨b, by simp [blkOf, h1], h2, lt h3⟩
  | map es clock =>
    obtain ⟨r, E, h1, h2, h3, _⟩ := h
    exact ⟨r, h1, h2, lt h3⟩
  | iter s pos =>
    obtain ⟨r, h1, h2, h3⟩ := h
    exact ⟨r, h1, h2, lt h3⟩
  | loop =>
    obtain ⟨r, l, h1, h2, h3, _⟩ := h
    exact ⟨r, h1, h2, lt h3⟩
  | dfr =>
    obtain ⟨r, h1, h2, h3⟩ := h
    exact ⟨r, h1, h2, lt h3⟩
  | dead => obtain ⟨_, _, hd⟩ := hd; cases hd

theorem blkOf_le (hG : G.le G') {o b : Nat} {x : AObj} (h : blkOf G o x = some b) : blkOf G' o x = some b := by
  cases x with
  | cells ty g fz cs =>
    simp only [blkOf] at *
    cases h1 : G.loc o g with
    | none => simp [h1] at h
    | some y => simp [h1] at h; simp [hG.loc _ _ _ h1, h]
  | tok ty e0 =>
    simp only [blkOf] at *
    cases h1 : G.tk o with
    | none => simp [h1] at h
    | some y => simp [h1] at h; simp [hG.tk _ _ h1, h]
  | map => exact hG.mp _ _ h
  | iter => exact hG.mp _ _ h
  | loop => exact hG.mp _ _ h
  | dfr => exact hG.mp _ _ h
  | dead => exact h

theorem ObjOk.mono {x : AObj} {o : Nat} (hG : G.le G') (h : ObjOk G w n0 o x) (hb : ∀ b, blkOf G o x = some b → w'.heap[b]? = w.heap[b]? ∧ ∀ k, G'.mem b k = G.mem b k) : ObjOk G' w' n0 o x := by
  cases x with
  | cells ty g fz cs =>
    obtain ⟨b, s, e, C, fr, h1, h2, h3, h4, h5, h6, h7, h8⟩ := h
    obtain ⟨e1, e2⟩ := hb b (by simp [blkOf, h1])
    exact ⟨b, s, e, C, fr, hG.loc _ _ _ h1, h2, e1.trans h3, h4, h5, fun i hi hi' => (h6 i hi hi').mono hG, fun k => (e2 k).trans (h7 k), h8⟩
  | tok ty e0 =>
    obtain ⟨b, e, c, C, fr, h1, h2, h0, h3, h4, h5, h6, h7⟩ := h
    obtain ⟨e1, e2⟩ := hb b (by simp [blkOf, h1])
    exact ⟨b, e, c, C, fr, hG.tk _ _ h1, h2, h0, e1.trans h3, h4, fun k hk => (e2 k).trans (h5 k hk), h6, h7⟩
  | map es clock =>
    obtain ⟨r, E, h1, h2, h3, h4, h5⟩ := h
    obtain ⟨e1, _⟩ := hb r h1
    exact ⟨r, E, hG.mp _ _ h1, h2, e1.trans h3, h4, fun i hi hi' => let ⟨a, b, c⟩ := h5 i hi hi'; ⟨a.mono hG, b.mono hG, c⟩⟩
  | iter s pos =>
    obtain ⟨r, h1, h2, h3⟩ := h
    obtain ⟨e1, _⟩ := hb r h1
    exact ⟨r, hG.mp _ _ h1, h2, e1.trans h3⟩
  | loop =>
    obtain ⟨r, l, h1, h2, h3, h4, h5, h6, h7⟩ := h
    obtain ⟨e1, _⟩ := hb r h1
    exact ⟨r, l, hG.mp _ _ h1, h2, e1.trans h3, h4, h5, h6.mono hG, h7⟩
  | dfr =>
    obtain ⟨r, h1, h2, h3⟩ := h
    obtain ⟨e1, _⟩ := hb r h1
    exact ⟨r, hG.mp _ _ h1, h2, e1.trans h3⟩
  | dead => trivial

theorem WRel.blk_lt (h : WRel n0 w0 G H w) {o b : Nat} {x : AObj} (hx : H.get o = some x) (hb : blkOf G o x = some b) : ¬ n0.K b ∧ b < w.heap.size := by
  obtain ⟨b', h1, h2, h3⟩ := (h.obj o x hx).blk ⟨_, _, hb⟩
  rw [hb] at h1
  cases h1
  exact ⟨h2, h3⟩

theorem WRel.mem_lt (h : WRel n0 w0 G H w) {b k : Nat} {v : Value} (hm : G.mem b k = some v) : b < w.heap.size := World.block_lt_of_cell? w ⟨b, k, none⟩ (h.mem _ _ _ hm)

theorem WRel.blk_same (h : WRel n0 w0 G H w) (hG : G.le G') {o b : Nat} {x : AObj} (hx : H.get o = some x) (hb : blkOf G' o x = some b) : blkOf G o x = some b := by
  obtain ⟨b', h1, _⟩ := (h.obj o x hx).blk ⟨_, _, hb⟩
  rw [blkOf_le hG h1] at hb
  cases hb
  exact h1

theorem WRel.drew (h : WRel n0 w0 G H w) : WRel n0 w0 G H w.drew :=
  ⟨h.below.drew, h.size, h.mem, fun o x hx => (h.obj o x hx).mono (Gh.le.refl _) (fun _ _ => ⟨rfl, fun _ => rfl⟩), h.sep, h.lt, h.fresh, h.res, h.bare⟩

/-- Worlds that have grown: what lay there is there. -/
theorem cell_kept {B b k : Nat} {v : Value} (hw : Below B w w') (hb : b < B) (h : w.cell? ⟨b, k, none⟩ = some v) : w'.cell? ⟨b, k, none⟩ = some v := by
  unfold World.cell? at *
  rw [hw.block b hb]
  exact h

theorem WRel.bare_grow (h : WRel n0 w0 G H w) (hG : G.le G') {p : Nat → Nat → Value → Prop} (hm : ∀ b k v, G'.mem b k = some v → G.mem b k = some v ∨ (w.heap.size ≤ b ∧ p b k v)) : ∀ b f, n0.M b = some f → ∀ k, G'.mem b k = f k := by
  intro b f hf k
  have h1 := h.bare b f hf k
  have h2 := h.size b (n0.hM b f hf)
  rw [← h1]
  cases e : G'.mem b k with
  | none =>
    cases e2 : G.mem b k with
    | none => rfl
    | some v => rw [hG.mem _ _ _ e2] at e; cases e
  | some v =>
    rcases hm b k v e with h3 | ⟨h3, _⟩
    · exact h3.symm
    · omega

theorem WRel.bare_cells (h : WRel n0 w0 G H w) {b e e2 : Nat} {C : Array Value} (hn : ¬ n0.K b) : ∀ b' f, n0.M b' = some f → ∀ k, (if b' = b ∧ e ≤ k ∧ k < e2 then C[k]? else G.mem b' k) = f k := by
  intro b' f hf k
  rw [if_neg]
  · exact h.bare b' f hf k
  · rintro ⟨rfl, _⟩
    exact hn (n0.hM _ f hf)

/-- New blocks; perhaps new cells that stay; no object. -/
theorem WRel.growMem (h : WRel n0 w0 G H w) (hG : G.le G') (hw : Below w.heap.size w w')
    (hm : ∀ b k v, G'.mem b k = some v → G.mem b k = some v ∨ (w.heap.size ≤ b ∧ w'.cell? ⟨b, k, none⟩ = some v))
    (hlt : ∀ b, G'.lt b → G.lt b ∨ (w.heap.size ≤ b ∧ b < w'.heap.size))
    (hU : ∀ o, Und G o → Und G' o) : WRel n0 w0 G' H w' := by
  refine ⟨h.below.trans (.of_below hw h.size), (fun b hb => Nat.lt_of_lt_of_le (h.size b hb) hw.size), fun b k v hv => ?_, fun o x hx => ?_, fun o o' x x' b hx hx' hb hb' => ?_, fun b hb => ?_, fun o ho => hU o (h.fresh o ho), fun o ho => ⟨hU o (h.res o ho).1, (h.res o ho).2⟩, h.bare_grow hG hm⟩
  · rcases hm b k v hv with h1 | ⟨_, h1⟩
    · exact cell_kept hw (h.mem_lt h1) (h.mem _ _ _ h1)
    · exact h1
  · refine (h.obj o x hx).mono hG fun b hb => ?_
    obtain ⟨_, hlt⟩ := h.blk_lt hx hb
    refine ⟨hw.block b hlt, fun k => ?_⟩
    cases e : G'.mem b k with
    | none =>
      cases e2 : G.mem b k with
      | none => rfl
      | some v => rw [hG.mem _ _ _ e2] at e; cases e
    | some v =>
      rcases hm b k v e with h1 | ⟨h1, _⟩
      · exact h1.symm
      · omega
  · exact h.sep o o' x x' b hx hx' (h.blk_same hG hx hb) (h.blk_same hG hx' hb')
  · rcases hlt b hb with h1 | ⟨h1, h2⟩
    · exact ⟨⟨(h.lt b h1).1.1, Nat.lt_of_lt_of_le (h.lt b h1).1.2 hw.size⟩, fun o x hx hbx => (h.lt b h1).2 o x hx (h.blk_same hG hx hbx)⟩
    · have hsz := h.size
      refine ⟨⟨fun hk => by have := h.size b hk; omega, h2⟩, fun o x hx hbx => ?_⟩
      have := (h.blk_lt hx (h.blk_same hG hx hbx)).2
      omega

/-- A new object in a new block. -/
theorem WRel.push (h : WRel n0 w0 G H w) (hF : Free n0 G H) (hG : G.le G') (hw : Below w.heap.size w w') {x : AObj}
    (hm : ∀ b k v, G'.mem b k = some v → G.mem b k = some v ∨ (w.heap.size ≤ b ∧ w'.cell? ⟨b, k, none⟩ = some v))
    (hlt : ∀ b, G'.lt b → G.lt b) (hx : ObjOk G' w' n0 H.n x) (hxb : ∀ b, blkOf G' H.n x = some b → w.heap.size ≤ b)
    (hU : ∀ o, o ≠ H.n → Und G o → Und G' o) : WRel n0 w0 G' (H.push x) w' := by
  refine ⟨h.below.trans (.of_below hw h.size), (fun b hb => Nat.lt_of_lt_of_le (h.size b hb) hw.size), fun b k v hv => ?_, fun o y hy => ?_, fun o o' y y' b hy hy' hb hb' => ?_, fun b hb => ⟨⟨(h.lt b (hlt b hb)).1.1, Nat.lt_of_lt_of_le (h.lt b (hlt b hb)).1.2 hw.size⟩, fun o y hy hby => ?_⟩, fun o ho => ?_, fun o ho => ?_, h.bare_grow hG hm⟩
  · rcases hm b k v hv with h1 | ⟨_, h1⟩
    · exact cell_kept hw (h.mem_lt h1) (h.mem _ _ _ h1)
    · exact h1
  · rw [AH.get_push] at hy
    split at hy
    · rename_i e; cases hy; subst e; exact hx
    rename_i hne
    refine (h.obj o y hy).mono hG fun b hb => ?_
    obtain ⟨_, hlt⟩ := h.blk_lt hy hb
    refine ⟨hw.block b hlt, fun k => ?_⟩
    cases e : G'.mem b k with
    | none =>
      cases e2 : G.mem b k with
      | none => rfl
      | some v => rw [hG.mem _ _ _ e2] at e; cases e
    | some v =>
      rcases hm b k v e with h1 | ⟨h1, _⟩
      · exact h1.symm
      · omega
  · rw [AH.get_push] at hy hy'
    split at hy <;> split at hy'
    · omega
    · rename_i e _; cases hy; subst e
      have := hxb b hb
      obtain ⟨_, hlt⟩ := h.blk_lt hy' (h.blk_same hG hy' hb')
      omega
    · rename_i _ e; cases hy'; subst e
      have := hxb b hb'
      obtain ⟨_, hlt⟩ := h.blk_lt hy (h.blk_same hG hy hb)
      omega
    · exact h.sep o o' y y' b hy hy' (h.blk_same hG hy hb) (h.blk_same hG hy' hb')
  · rw [AH.get_push] at hy
    split at hy
    · rename_i e; cases hy; subst e
      have h1 := hxb b hby
      have h2 := (h.lt b (hlt b hb)).1.2
      omega
    · exact (h.lt b (hlt b hb)).2 o y hy (h.blk_same hG hy hby)
  · rw [AH.get_push] at ho
    split at ho
    · cases ho
    · rename_i hne
      exact hU o hne (h.fresh o ho)
  · have hne : o ≠ H.n := by rintro rfl; exact hF.2 ho
    exact ⟨hU o hne (h.res o ho).1, by rw [AH.get_push, if_neg hne]; exact (h.res o ho).2⟩

theorem below_alloc (w : World) (x : Obj) : Below w.heap.size w (w.alloc x) := (Below.refl _ _).alloc (Nat.le_refl _) _

theorem heap_alloc_new (w : World) (x : Obj) : (w.alloc x).heap[w.heap.size]? = some x := by
  show (w.heap.push x)[w.heap.size]? = some x
  simp

def Gh.withLoc (G : Gh) (o g : Nat) (x : Nat × Nat × Nat) : Gh := { G with loc := fun o' g' => if o' = o ∧ g' = g then some x else G.loc o' g' }
def Gh.withMp (G : Gh) (o : Nat) (x : Nat) : Gh := { G with mp := fun o' => if o' = o then some x else G.mp o' }

theorem Gh.le_withLoc {o g : Nat} {x : Nat × Nat × Nat} (h : G.loc o g = none) : G.le (G.withLoc o g x) :=
  ⟨fun o' g' y hy => by
    simp only [Gh.withLoc]
    split
    · rename_i e; obtain ⟨rfl, rfl⟩ := e; rw [h] at hy; cases hy
    · exact hy, fun _ _ h => h, fun _ _ _ h => h, fun _ h => h, fun _ _ h => h⟩
theorem Gh.le_withMp {o : Nat} {x : Nat} (h : G.mp o = none) : G.le (G.withMp o x) :=
  ⟨fun _ _ _ h => h, fun o' y hy => by
    simp only [Gh.withMp]
    split
    · rename_i e; subst e; rw [h] at hy; cases hy
    · exact hy, fun _ _ _ h => h, fun _ h => h, fun _ _ h => h⟩

theorem WRel.free (h : WRel n0 w0 G H w) (hN : H.get H.n = none) : Free n0 G H := ⟨h.fresh _ hN, fun hr => by have := (h.res _ hr).2; rw [hN] at this; cases this⟩
theorem WRel.new (h : WRel n0 w0 G H w) : ¬ n0.K w.heap.size := fun hk => by have := h.size _ hk; omega

theorem Und.withLoc {o o' g : Nat} {x : Nat × Nat × Nat} (h : Und G o) (hne : o ≠ o') (hg : g ≠ o + 1) : Und (G.withLoc o' g x) o := by
  refine ⟨fun k => ⟨?_, ?_⟩, h.2⟩
  · simp [Gh.withLoc, hne, (h.1 k).1]
  · have : ¬ (o + 1 = g) := fun e => hg e.symm
    simp [Gh.withLoc, this, (h.1 k).2]
theorem Und.withMp {o o' : Nat} {x : Nat} (h : Und G o) (hne : o ≠ o') : Und (G.withMp o' x) o := ⟨h.1, by simp [Gh.withMp, hne, h.2.1], h.2.2⟩

/-- A new row of cells that may be changed. -/
theorem WRel.push_cells (h : WRel n0 w0 G H w) (hF : Free n0 G H) {cs : List AV} {C : Array Value} {ty : TypeId} (hl : cs.length ≤ C.size) (hc : ∀ i (h : i < cs.length) (h' : i < C.size), Rep G cs[i] C[i]) :
    G.le (G.withLoc H.n 0 (w.heap.size, 0, C.size)) ∧ WRel n0 w0 (G.withLoc H.n 0 (w.heap.size, 0, C.size)) (H.push (.cells ty 0 0 cs)) (w.alloc (.cells C ty)) := by
  have hG : G.le (G.withLoc H.n 0 (w.heap.size, 0, C.size)) := Gh.le_withLoc (hF.1.1 0).1
  refine ⟨hG, h.push hF hG (below_alloc _ _) (fun b k v hv => .inl hv) (fun _ h => h) ?_ ?_ ?_⟩
  · refine ⟨w.heap.size, 0, C.size, C, (0, 0), by simp [Gh.withLoc], h.new, heap_alloc_new _ _, Nat.le_refl _, by omega, fun i hi hi' => ?_, fun k => ?_, fun k _ _ => by simp, fun _ => rfl⟩
    · have := (hc i hi (by omega)).mono hG
      simpa using this
    · show G.mem w.heap.size k = none
      cases e : G.mem w.heap.size k with
      | none => rfl
      | some v => have := h.mem_lt e; omega
  · intro b hb
    simp [blkOf, Gh.withLoc] at hb
    omega
  · exact fun o hne hu => hu.withLoc hne (by omega)

theorem WRel.push_map (h : WRel n0 w0 G H w) (hF : Free n0 G H) : G.le (G.withMp H.n w.heap.size) ∧ WRel n0 w0 (G.withMp H.n w.heap.size) (H.push (.map [] 0)) (w.alloc (.map #[] 0)) := by
  have hG : G.le (G.withMp H.n w.heap.size) := Gh.le_withMp hF.1.2.1
  refine ⟨hG, h.push hF hG (below_alloc _ _) (fun b k v hv => .inl hv) (fun _ h => h) ?_ ?_ ?_⟩
  · exact ⟨w.heap.size, #[], by simp [Gh.withMp], h.new, heap_alloc_new _ _, rfl, fun i hi => absurd hi (Nat.not_lt_zero _)⟩
  · intro b hb
    simp [blkOf, Gh.withMp] at hb
    omega
  · exact fun o hne hu => hu.withMp hne

theorem WRel.push_iter (h : WRel n0 w0 G H w) (hF : Free n0 G H) (s : ByteArray) : G.le (G.withMp H.n w.heap.size) ∧ WRel n0 w0 (G.withMp H.n w.heap.size) (H.push (.iter s 0)) (w.alloc (.stringIter s 0)) := by
  have hG : G.le (G.withMp H.n w.heap.size) := Gh.le_withMp hF.1.2.1
  refine ⟨hG, h.push hF hG (below_alloc _ _) (fun b k v hv => .inl hv) (fun _ h => h) ?_ ?_ ?_⟩
  · exact ⟨w.heap.size, by simp [Gh.withMp], h.new, heap_alloc_new _ _⟩
  · intro b hb
    simp [blkOf, Gh.withMp] at hb
    omega
  · exact fun o hne hu => hu.withMp hne

/-- Cells that stay, in a new block. -/
def Gh.withMem (G : Gh) (b m : Nat) (C : Array Value) : Gh := { G with mem := fun b' k => if b' = b ∧ k < m then C[k]? else G.mem b' k }
def Gh.withTk (G : Gh) (o : Nat) (x : Nat × Nat × Nat) : Gh := { G with tk := fun o' => if o' = o then some x else G.tk o' }

theorem Gh.le_withMem {b m : Nat} {C : Array Value} (h : ∀ k, G.mem b k = none) : G.le (G.withMem b m C) :=
  ⟨fun _ _ _ h => h, fun _ _ h => h, fun b' k y hy => by
    simp only [Gh.withMem]
    split
    · rename_i e; obtain ⟨rfl, _⟩ := e; rw [h] at hy; cases hy
    · exact hy, fun _ h => h, fun _ _ h => h⟩
theorem Gh.le_withTk {o : Nat} {x : Nat × Nat × Nat} (h : G.tk o = none) : G.le (G.withTk o x) :=
  ⟨fun _ _ _ h => h, fun _ _ h => h, fun _ _ _ h => h, fun _ h => h, fun o' y hy => by
    simp only [Gh.withTk]
    split
    · rename_i e; subst e; rw [h] at hy; cases hy
    · exact hy⟩

theorem Und.withMem {o b m : Nat} {C : Array Value} (h : Und G o) : Und (G.withMem b m C) o := h
theorem Und.withTk {o o' : Nat} {x : Nat × Nat × Nat} (h : Und G o) (hne : o ≠ o') : Und (G.withTk o' x) o := ⟨h.1, h.2.1, by simp [Gh.withTk, hne, h.2.2]⟩

theorem WRel.new_mem (h : WRel n0 w0 G H w) (k : Nat) : G.mem w.heap.size k = none := by
  cases e : G.mem w.heap.size k with
  | none => rfl
  | some v => have := h.mem_lt e; omega

theorem mem_new {m : Nat} {C : Array Value} {ty : TypeId} {b k : Nat} {v : Value} (hv : (G.withMem w.heap.size m C).mem b k = some v) :
    G.mem b k = some v ∨ (w.heap.size ≤ b ∧ (w.alloc (.cells C ty)).cell? ⟨b, k, none⟩ = some v) := by
  simp only [Gh.withMem] at hv
  split at hv
  · rename_i e
    obtain ⟨rfl, _⟩ := e
    exact .inr ⟨Nat.le_refl _, by rw [World.cell?_alloc_new]; exact hv⟩
  · exact .inl hv

def Gh.withLt (G : Gh) (b : Nat) : Gh := { G with lt := fun b' => b' = b ∨ G.lt b' }
theorem Gh.le_withLt {b : Nat} : G.le (G.withLt b) := ⟨fun _ _ _ h => h, fun _ _ h => h, fun _ _ _ h => h, fun _ h => .inr h, fun _ _ h => h⟩

/-- A new row that is never changed: a literal. -/
theorem WRel.new_row (h : WRel n0 w0 G H w) (C : Array Value) (ty : TypeId) :
    G.le ((G.withMem w.heap.size C.size C).withLt w.heap.size) ∧ WRel n0 w0 ((G.withMem w.heap.size C.size C).withLt w.heap.size) H (w.alloc (.cells C ty)) := by
  have hG : G.le ((G.withMem w.heap.size C.size C).withLt w.heap.size) := (Gh.le_withMem h.new_mem).trans Gh.le_withLt
  refine ⟨hG, h.growMem hG (below_alloc _ _) (fun b k v hv => mem_new hv) (fun b hb => ?_) (fun o hu => hu)⟩
  rcases hb with rfl | hb
  · exact .inr ⟨Nat.le_refl _, by simp⟩
  · exact .inl hb

/-- A new row with room behind its first m cells, and the right to write there. -/
theorem WRel.push_tok (h : WRel n0 w0 G H w) (hF : Free n0 G H) (C : Array Value) (ty : TypeId) (m : Nat) (hm : m ≤ C.size) {w' : World} (hw' : Below w.heap.size w w') {fr : Nat × Nat} (hb : w'.heap[w.heap.size]? = some (.cells C ty fr))
    (hfr : ∀ k, m ≤ k → k < C.size → ¬ (fr.1 ≤ k ∧ k < fr.2)) (e0 : Option Nat) (he0 : ∀ x, e0 = some x → x = m ∧ (fr.1 = fr.2 ∨ fr.2 ≤ m)) :
    G.le ((G.withMem w.heap.size m C).withTk H.n (w.heap.size, m, C.size)) ∧ WRel n0 w0 ((G.withMem w.heap.size m C).withTk H.n (w.heap.size, m, C.size)) (H.push (.tok ty e0)) w' := by
  have hG : G.le ((G.withMem w.heap.size m C).withTk H.n (w.heap.size, m, C.size)) :=
    (Gh.le_withMem h.new_mem).trans (Gh.le_withTk (by exact hF.1.2.2))
  refine ⟨hG, h.push hF hG hw' (fun b k v hv => ?_) (fun _ h => h) ?_ ?_ ?_⟩
  · have hv' : (G.withMem w.heap.size m C).mem b k = some v := hv
    simp only [Gh.withMem] at hv'
    split at hv'
    · rename_i e
      obtain ⟨rfl, _⟩ := e
      exact .inr ⟨Nat.le_refl _, by unfold World.cell?; rw [hb]; simpa using hv'⟩
    · exact .inl hv'
  · refine ⟨w.heap.size, m, C.size, C, fr, by simp [Gh.withTk], h.new, hm, hb, Nat.le_refl _, fun k hk => ?_, hfr, he0⟩
    show (G.withMem w.heap.size m C).mem w.heap.size k = none
    simp only [Gh.withMem]
    rw [if_neg (by omega)]
    exact h.new_mem k
  · intro b hb
    simp [blkOf, Gh.withTk] at hb
    omega
  · exact fun o hne hu => (Und.withMem hu).withTk hne

/-! ### Stores -/
def putAt (C : Array Value) (o : Nat) : List Value → Array Value
  | [] => C
  | v :: vs => putAt (C.setIfInBounds o v) (o + 1) vs

theorem putAt_size (o : Nat) (vs : List Value) : ∀ C : Array Value, (putAt C o vs).size = C.size := by
  induction vs generalizing o with
  | nil => intro C; rfl
  | cons v vs ih => intro C; simp [putAt, ih]

theorem putAt_get (vs : List Value) : ∀ (C : Array Value) (o i : Nat), o + vs.length ≤ C.size → (putAt C o vs)[i]? = if o ≤ i ∧ i < o + vs.length then vs[i - o]? else C[i]? := by
  induction vs with
  | nil => intro C o i h; simp [putAt]; intro h1 h2; omega
  | cons v vs ih =>
    intro C o i h
    simp only [putAt]
    simp only [List.length_cons] at h
    rw [ih _ _ _ (by simp; omega)]
    by_cases h1 : o + 1 ≤ i ∧ i < o + 1 + vs.length
    · have h2 : o ≤ i ∧ i < o + (vs.length + 1) := by omega
      have e : i - o = (i - (o + 1)) + 1 := by omega
      simp only [h1, h2, and_self, if_true, List.length_cons, e, List.getElem?_cons_succ]
    · rw [if_neg h1]
      by_cases h3 : i = o
      · subst h3
        have : i ≤ i ∧ i < i + (v :: vs).length := by simp
        rw [if_pos this]
        simp [Array.getElem?_setIfInBounds]
        omega
      · have : ¬ (o ≤ i ∧ i < o + (v :: vs).length) := by simp; omega
        rw [if_neg this, Array.getElem?_setIfInBounds, if_neg (by omega)]

theorem setCell_heap (w : World) (b o : Nat) (v : Value) {C : Array Value} {ty : TypeId} {fr : Nat × Nat} (h : w.heap[b]? = some (.cells C ty fr)) :
    (w.setCell ⟨b, o, none⟩ v).heap[b]? = some (.cells (C.setIfInBounds o v) ty fr) := by
  simp [World.setCell, Array.getElem?_modify, h]

/-- What stores into one block leave. -/
structure Put (b : Nat) (w w' : World) : Prop where
  os : w'.os = w.os
  tape : w'.tape = w.tape
  output : w'.output = w.output
  size : w'.heap.size = w.heap.size
  other : ∀ k, k ≠ b → w'.heap[k]? = w.heap[k]?

theorem Put.below {b : Nat} {K : Nat → Prop} (h : Put b w w') (hn : ¬ K b) : Keeps K w w' := ⟨h.os, h.tape, h.output, Nat.le_of_eq h.size.symm, fun k hk => h.other k (by rintro rfl; exact hn hk)⟩

theorem run_storeCells (P : Program) (b off : Nat) (ty : TypeId) (fr : Nat × Nat) : ∀ (vs : List Value) (i : Nat) (C : Array Value) (w : World), w.heap[b]? = some (.cells C ty fr) → off + i + vs.length ≤ C.size →
    (∀ k, off + i ≤ k → k < off + i + vs.length → ¬ (fr.1 ≤ k ∧ k < fr.2)) → (∀ v ∈ vs, v.oneCell' = true) →
    ∃ w', (storeCells ⟨b, off, none⟩ vs i).run P w = .ok () w' ∧ w'.heap[b]? = some (.cells (putAt C (off + i) vs) ty fr) ∧ Put b w w' := by
  intro vs
  induction vs with
  | nil => intro i C w h _ _ _; exact ⟨w, rfl, h, ⟨rfl, rfl, rfl, rfl, fun _ _ => rfl⟩⟩
  | cons v vs ih =>
    intro i C w h hs hf h1
    simp only [List.length_cons] at hs hf
    have hadd : (⟨b, off, none⟩ : Addr).add i = ⟨b, off + i, none⟩ := by unfold Addr.add; split <;> simp_all
    have hc : w.cell? ⟨b, off + i, none⟩ = some C[off + i] := by
      unfold World.cell?
      rw [h]
      simp [Array.getElem?_eq_getElem (show off + i < C.size by omega)]
    have hz : w.frozen? ⟨b, off + i, none⟩ = false := by
      unfold World.frozen?
      rw [h]
      obtain ⟨lo, hi⟩ := fr
      have := hf (off + i) (Nat.le_refl _) (by omega)
      simp only [Bool.and_eq_false_iff, decide_eq_false_iff_not]
      by_cases hlo : lo ≤ off + i
      · right; exact fun hh => this ⟨hlo, hh⟩
      · left; exact hlo
    obtain ⟨w', e1, e2, e3⟩ := ih (i + 1) (C.setIfInBounds (off + i) v) (w.setCell ⟨b, off + i, none⟩ v) (setCell_heap w b _ v h) (by simp; omega)
      (fun k hk hk' => hf k (by omega) (by omega)) (fun u hu => h1 u (List.mem_cons_of_mem _ hu))
    refine ⟨w', ?_, ?_, ?_⟩
    · simp only [storeCells, Sem.run_bind, hadd]
      rw [run_store P w _ v .plain (h1 v (List.mem_cons_self)), hc]
      simp only [hz, Bool.false_eq_true, if_false, Result.andThen_ok]
      exact e1
    · rw [e2]; simp [putAt, Nat.add_assoc]
    · refine ⟨e3.os, e3.tape, e3.output, by rw [e3.size]; simp, fun k hk => ?_⟩
      rw [e3.other k hk]
      exact Below.heap_setCell _ _ _ _ hk

theorem splice_get (cs : List AV) (k : Nat) (new : List AV) (h : k + new.length ≤ cs.length) (i : Nat) : (splice cs k new)[i]? = if k ≤ i ∧ i < k + new.length then new[i - k]? else cs[i]? := by
  unfold splice
  by_cases h1 : i < k
  · rw [List.getElem?_append_left (by simp; omega), List.getElem?_append_left (by simp; omega), if_neg (by omega), List.getElem?_take, if_pos h1]
  · by_cases h2 : i < k + new.length
    · rw [List.getElem?_append_left (by simp; omega), List.getElem?_append_right (by simp; omega), if_pos (by omega)]
      simp; congr 1; omega
    · rw [List.getElem?_append_right (by simp; omega), if_neg (by omega), List.getElem?_drop]
      simp; congr 1; omega

theorem splice_length (cs : List AV) (k : Nat) (new : List AV) (h : k + new.length ≤ cs.length) : (splice cs k new).length = cs.length := by
  unfold splice
  simp; omega

theorem one_of_rep {x : AV} {v : Value} (h : Rep G x v) (h1 : x.one = true) : v.oneCell' = true := by
  cases h <;> first | rfl | exact h1 | (simp [AV.one] at h1)

theorem get_dead_set {o o1 : Nat} {x y : AObj} (hx : H.get o = some x) (hd : x ≠ .dead) (h : H.get o1 = some .dead) : (H.set o y).get o1 = some .dead := by
  rw [AH.get_set]
  split
  · rename_i e; subst e; rw [hx] at h; cases h; exact absurd rfl hd
  · exact h
theorem get_dead_kill {o o1 : Nat} (h : H.get o1 = some .dead) : (H.set o .dead).get o1 = some .dead := by
  rw [AH.get_set]
  split
  · rfl
  · exact h
theorem get_dead_push {o1 : Nat} {y : AObj} (hne : o1 ≠ H.n) (h : H.get o1 = some .dead) : (H.push y).get o1 = some .dead := by
  rw [AH.get_push, if_neg hne]; exact h

theorem get_none_set {o o1 : Nat} {x : AObj} (h : (H.set o x).get o1 = none) : H.get o1 = none := by
  rw [AH.get_set] at h
  split at h
  · cases h
  · exact h
theorem get_none_push {o1 : Nat} {x : AObj} (h : (H.push x).get o1 = none) : H.get o1 = none := by
  rw [AH.get_push] at h
  split at h
  · cases h
  · exact h

/-- Cells of an object are changed. -/
theorem WRel.set_cells (h : WRel n0 w0 G H w) {o ty g fz : Nat} {cs cs' : List AV} (hx : H.get o = some (.cells ty g fz cs)) {b s e : Nat} (hl : G.loc o g = some (b, s, e)) (hw : Put b w w')
    {C C' : Array Value} {fr : Nat × Nat} (hC : w.heap[b]? = some (.cells C ty fr)) (hC' : w'.heap[b]? = some (.cells C' ty fr)) (hs : C'.size = C.size) (hlen : cs'.length = cs.length)
    (hr : ∀ i (h : i < cs'.length) (h' : s + i < C'.size), Rep G cs'[i] C'[s + i]) : WRel n0 w0 G (H.set o (.cells ty g fz cs')) w' := by
  have hok := h.obj o _ hx
  obtain ⟨b', s', e', C0, fr0, h1, h2, h3, h4, h5, h6, h7, h8⟩ := hok
  rw [hl] at h1
  cases h1
  rw [hC] at h3
  cases h3
  have hbo : blkOf G o (.cells ty g fz cs) = some b := by simp [blkOf, hl]
  refine ⟨h.below.trans (hw.below h2), by rw [hw.size]; exact h.size, fun b' k v hv => ?_, fun o' x' hx' => ?_, fun o1 o2 x1 x2 b1 hx1 hx2 hb1 hb2 => ?_, fun b1 hb1 => ⟨by rw [hw.size]; exact (h.lt b1 hb1).1, fun o1 x1 hx1 hbx => ?_⟩, fun o1 ho1 => h.fresh o1 (get_none_set ho1), fun o1 ho1 => ⟨(h.res o1 ho1).1, get_dead_set hx (by simp) (h.res o1 ho1).2⟩, h.bare⟩
  · have hne : b' ≠ b := by rintro rfl; rw [h7] at hv; cases hv
    have := h.mem b' k v hv
    unfold World.cell? at *
    rw [hw.other b' hne]
    exact this
  · rw [AH.get_set] at hx'
    split at hx'
    · rename_i e0; subst e0; cases hx'
      exact ⟨b, s, e, C', fr, hl, h2, hC', by omega, by omega, hr, h7, h8⟩
    · rename_i hne
      refine (h.obj o' x' hx').mono (Gh.le.refl _) fun b' hb' => ⟨hw.other b' ?_, fun _ => rfl⟩
      rintro rfl
      exact hne (h.sep o' o x' _ b' hx' hx hb' hbo)
  · rw [AH.get_set] at hx1 hx2
    have hbo' : ∀ cs', blkOf G o (.cells ty g fz cs') = some b := fun cs' => by simp [blkOf, hl]
    split at hx1 <;> split at hx2
    · omega
    · rename_i e0 _; subst e0; cases hx1
      rw [hbo'] at hb1; cases hb1
      exact h.sep o1 o2 _ x2 b hx hx2 hbo hb2
    · rename_i _ e0; subst e0; cases hx2
      rw [hbo'] at hb2; cases hb2
      exact h.sep o1 o2 x1 _ b hx1 hx hb1 hbo
    · exact h.sep o1 o2 x1 x2 b1 hx1 hx2 hb1 hb2
  · rw [AH.get_set] at hx1
    split at hx1
    · rename_i e0; subst e0; cases hx1
      rw [show blkOf G o1 (.cells ty g fz cs') = some b by simp [blkOf, hl]] at hbx
      cases hbx
      exact (h.lt b hb1).2 o1 _ hx hbo
    · exact (h.lt b1 hb1).2 o1 x1 hx1 hbx

/-- storeTo, in the world. -/
theorem sim_storeTo (P : Program) (h : WRel n0 w0 G H w) {a : AV} {n : Nat} {us : List AV} {H' : AH} (hs : storeTo H a n us = some H') {va : Value} (ha : Rep G a va) {vs : List Value} (hv : Reps G us vs) :
    ∃ ad w', va = .pointer (some ad) ∧ us.length = n ∧ (storeCells ad vs).run P w = .ok () w' ∧ WRel n0 w0 G H' w' := by
  unfold storeTo at hs
  split at hs
  · rename_i o g k
    split at hs
    · rename_i ty g' fz cs hx
      split at hs
      · rename_i hc
        obtain ⟨rfl, hn, hk, hfz, hone⟩ := hc
        cases hs
        have hok := h.obj o _ hx
        obtain ⟨b, s, e, C, fr, h1, h2, h3, h4, h5, h6, h7, h8, h9⟩ := hok
        cases ha with
        | ptr hp =>
          rw [h1] at hp
          cases hp
          have hvl : vs.length = n := by rw [← hv.1]; exact hn
          obtain ⟨w', e1, e2, e3⟩ := run_storeCells P b (s + k) ty fr vs 0 C w h3 (by omega) (fun j hj hj' => h8 j (by omega) (by omega)) (fun v hm => by
            obtain ⟨i, hi, rfl⟩ := List.getElem_of_mem hm
            refine one_of_rep (hv.2 i (by rw [hv.1]; exact hi) hi) ?_
            exact List.all_eq_true.1 hone _ (List.getElem_mem _))
          refine ⟨_, w', rfl, hn, e1, h.set_cells hx h1 e3 h3 e2 (putAt_size _ _ _) (splice_length _ _ _ (by omega)) fun i hi hi' => ?_⟩
          rw [splice_length _ _ _ (by omega)] at hi
          have hi'' : s + i < C.size := by rw [putAt_size] at hi'; exact hi'
          have l1 := splice_get cs k us (by omega) i
          have l2 := putAt_get vs C (s + k + 0) (s + i) (by omega)
          rw [List.getElem?_eq_getElem (by rw [splice_length _ _ _ (by omega)]; exact hi)] at l1
          rw [Array.getElem?_eq_getElem hi'] at l2
          by_cases hin : k ≤ i ∧ i < k + us.length
          · rw [if_pos hin, List.getElem?_eq_getElem (by omega)] at l1
            rw [if_pos (by omega), List.getElem?_eq_getElem (by omega)] at l2
            have l1' := Option.some.inj l1
            have l2' := Option.some.inj l2
            rw [l1', l2']
            have : s + i - (s + k + 0) = i - k := by omega
            simp only [this]
            exact hv.2 _ _ _
          · rw [if_neg hin, List.getElem?_eq_getElem hi] at l1
            rw [if_neg (by omega), Array.getElem?_eq_getElem hi''] at l2
            rw [Option.some.inj l1, Option.some.inj l2]
            exact h6 i hi hi''
      · cases hs
    · cases hs
  · cases hs

/-- An object that is no row is changed. -/
theorem WRel.set_obj (h : WRel n0 w0 G H w) {o : Nat} {x x' : AObj} (hx : H.get o = some x) {b : Nat} (hb : blkOf G o x = some b) (hw : Put b w w') (hm : ∀ k, G.mem b k = none) (hok : ObjOk G w' n0 o x') (hb' : blkOf G o x' = some b) : WRel n0 w0 G (H.set o x') w' := by
  obtain ⟨hn, _⟩ := h.blk_lt hx hb
  refine ⟨h.below.trans (hw.below hn), by rw [hw.size]; exact h.size, fun b' k v hv => ?_, fun o' y hy => ?_, fun o1 o2 x1 x2 b1 hx1 hx2 hb1 hb2 => ?_, fun b1 hb1 => ⟨by rw [hw.size]; exact (h.lt b1 hb1).1, fun o1 x1 hx1 hbx => ?_⟩, fun o1 ho1 => h.fresh o1 (get_none_set ho1), fun o1 ho1 => ⟨(h.res o1 ho1).1, get_dead_set hx (by rintro rfl; simp [blkOf] at hb) (h.res o1 ho1).2⟩, h.bare⟩
  · have hne : b' ≠ b := by rintro rfl; rw [hm] at hv; cases hv
    have := h.mem b' k v hv
    unfold World.cell? at *
    rw [hw.other b' hne]
    exact this
  · rw [AH.get_set] at hy
    split at hy
    · rename_i e0; subst e0; cases hy; exact hok
    · rename_i hne
      refine (h.obj o' y hy).mono (Gh.le.refl _) fun b1 hb1 => ⟨hw.other b1 ?_, fun _ => rfl⟩
      rintro rfl
      exact hne (h.sep o' o y _ b1 hy hx hb1 hb)
  · rw [AH.get_set] at hx1 hx2
    split at hx1 <;> split at hx2
    · omega
    · rename_i e0 _; subst e0; cases hx1
      rw [hb'] at hb1; cases hb1
      exact h.sep o1 o2 _ x2 b hx hx2 hb hb2
    · rename_i _ e0; subst e0; cases hx2
      rw [hb'] at hb2; cases hb2
      exact h.sep o1 o2 x1 _ b hx1 hx hb1 hb
    · exact h.sep o1 o2 x1 x2 b1 hx1 hx2 hb1 hb2
  · rw [AH.get_set] at hx1
    split at hx1
    · rename_i e0; subst e0; cases hx1
      rw [hb'] at hbx; cases hbx
      exact (h.lt b hb1).2 o1 _ hx hb
    · exact (h.lt b1 hb1).2 o1 x1 hx1 hbx

theorem freeze_other (w : World) (b off m k : Nat) (hk : k ≠ b) : (w.freeze ⟨b, off, none⟩ m).heap[k]? = w.heap[k]? := by
  unfold World.freeze
  split
  · rfl
  · simp only [Array.getElem?_modify]
    rw [if_neg (by omega)]

theorem freeze_at (w : World) (b off m : Nat) (hm : m ≠ 0) {C : Array Value} {ty : TypeId} {fr : Nat × Nat} (h : w.heap[b]? = some (.cells C ty fr)) :
    (w.freeze ⟨b, off, none⟩ m).heap[b]? = some (.cells C ty (if fr.1 == fr.2 then (off, off + m) else (min fr.1 off, max fr.2 (off + m)))) := by
  unfold World.freeze
  rw [if_neg hm]
  simp only [Array.getElem?_modify, if_true, h]
  rfl

theorem freeze_cell (w : World) (b off m : Nat) {a : Addr} {v : Value} (ha : w.cell? a = some v) : (w.freeze ⟨b, off, none⟩ m).cell? a = some v := by
  unfold World.freeze
  split
  · exact ha
  · unfold World.cell? at *
    simp only [Array.getElem?_modify]
    by_cases hab : b = a.block
    · rw [if_pos hab]
      cases hh : w.heap[a.block]? with
      | none => simp [hh] at ha
      | some x => cases x <;> simp_all
    · rw [if_neg hab]; exact ha

theorem freeze_size (w : World) (a : Addr) (m : Nat) : (w.freeze a m).heap.size = w.heap.size := by
  unfold World.freeze
  split <;> simp

theorem WRel.freeze (h : WRel n0 w0 G H w) {b off m : Nat} (hn : ¬ n0.K b) (hobj : ∀ o x, H.get o = some x → blkOf G o x = some b → ObjOk G (w.freeze ⟨b, off, none⟩ m) n0 o x) : WRel n0 w0 G H (w.freeze ⟨b, off, none⟩ m) := by
  have hbel : Keeps n0.K w (w.freeze ⟨b, off, none⟩ m) := by
    refine ⟨?_, ?_, ?_, by rw [freeze_size]; exact Nat.le_refl _, fun k hk => freeze_other _ _ _ _ _ (by rintro rfl; exact hn hk)⟩ <;> (unfold World.freeze; split <;> rfl)
  refine ⟨h.below.trans hbel, by rw [freeze_size]; exact h.size, fun b' k v hv => freeze_cell _ _ _ _ (h.mem _ _ _ hv), fun o x hx => ?_, h.sep, fun b' hb' => by rw [freeze_size]; exact h.lt b' hb', h.fresh, h.res, h.bare⟩
  by_cases hb : blkOf G o x = some b
  · exact hobj o x hx hb
  · refine (h.obj o x hx).mono (Gh.le.refl _) fun b' hb' => ⟨freeze_other _ _ _ _ _ ?_, fun _ => rfl⟩
    rintro rfl
    exact hb hb'


/-- An object is given up. -/
theorem WRel.kill (h : WRel n0 w0 G H w) (o : Nat) : WRel n0 w0 G (H.set o .dead) w := by
  refine ⟨h.below, h.size, h.mem, fun o' y hy => ?_, fun o1 o2 x1 x2 b1 hx1 hx2 hb1 hb2 => ?_, fun b1 hb1 => ⟨(h.lt b1 hb1).1, fun o1 x1 hx1 hbx => ?_⟩, fun o1 ho1 => h.fresh o1 (get_none_set ho1), fun o1 ho1 => ⟨(h.res o1 ho1).1, get_dead_kill (h.res o1 ho1).2⟩, h.bare⟩
  · rw [AH.get_set] at hy
    split at hy
    · cases hy; trivial
    · exact h.obj o' y hy
  · rw [AH.get_set] at hx1 hx2
    split at hx1
    · cases hx1; simp [blkOf] at hb1
    · split at hx2
      · cases hx2; simp [blkOf] at hb2
      · exact h.sep o1 o2 x1 x2 b1 hx1 hx2 hb1 hb2
  · rw [AH.get_set] at hx1
    split at hx1
    · cases hx1; simp [blkOf] at hbx
    · exact (h.lt b1 hb1).2 o1 x1 hx1 hbx

/-- A number is used up. -/
theorem WRel.push_dead (h : WRel n0 w0 G H w) (hF : Free n0 G H) : WRel n0 w0 G (H.push .dead) w := by
  refine ⟨h.below, h.size, h.mem, fun o' y hy => ?_, fun o1 o2 x1 x2 b1 hx1 hx2 hb1 hb2 => ?_, fun b1 hb1 => ⟨(h.lt b1 hb1).1, fun o1 x1 hx1 hbx => ?_⟩, fun o1 ho1 => h.fresh o1 (get_none_push ho1), fun o1 ho1 => ⟨(h.res o1 ho1).1, get_dead_push (by rintro rfl; exact hF.2 ho1) (h.res o1 ho1).2⟩, h.bare⟩
  · rw [AH.get_push] at hy
    split at hy
    · cases hy; trivial
    · exact h.obj o' y hy
  · rw [AH.get_push] at hx1 hx2
    split at hx1
    · cases hx1; simp [blkOf] at hb1
    · split at hx2
      · cases hx2; simp [blkOf] at hb2
      · exact h.sep o1 o2 x1 x2 b1 hx1 hx2 hb1 hb2
  · rw [AH.get_push] at hx1
    split at hx1
    · cases hx1; simp [blkOf] at hbx
    · exact (h.lt b1 hb1).2 o1 x1 hx1 hbx

def Gh.withCells (G : Gh) (b e e2 : Nat) (C : Array Value) : Gh := { G with mem := fun b' k => if b' = b ∧ e ≤ k ∧ k < e2 then C[k]? else G.mem b' k }

theorem Gh.le_withCells {b e e2 : Nat} {C : Array Value} (h : ∀ k, e ≤ k → G.mem b k = none) : G.le (G.withCells b e e2 C) :=
  ⟨fun _ _ _ h => h, fun _ _ h => h, fun b' k y hy => by
    simp only [Gh.withCells]
    split
    · rename_i e; obtain ⟨rfl, h1, _⟩ := e; rw [h k h1] at hy; cases hy
    · exact hy, fun _ h => h, fun _ _ h => h⟩

/-- In a block that nobody holds, cells behind those that stay are written; they stay from now on; the right to write behind them. -/
theorem WRel.claim (h : WRel n0 w0 G H w) (hF : Free n0 G H) {b e e2 c : Nat} {C C' : Array Value} {ty : TypeId} {fr : Nat × Nat} (hn : ¬ n0.K b) (hown : ∀ o x, H.get o = some x → blkOf G o x ≠ some b) (hlt : ¬ G.lt b) (hw : Put b w w')
    (hC : w.heap[b]? = some (.cells C ty fr)) (hC' : w'.heap[b]? = some (.cells C' ty fr)) (hsame : ∀ k, k < e → C'[k]? = C[k]?) (hnone : ∀ k, e ≤ k → G.mem b k = none) (he : e ≤ e2) (he2 : e2 ≤ c) (hc : c ≤ C'.size)
    (hfr : ∀ k, e2 ≤ k → k < c → ¬ (fr.1 ≤ k ∧ k < fr.2)) (e0 : Option Nat) (he0 : ∀ x, e0 = some x → x = e2 ∧ (fr.1 = fr.2 ∨ fr.2 ≤ e2)) :
    G.le ((G.withCells b e e2 C').withTk H.n (b, e2, c)) ∧ WRel n0 w0 ((G.withCells b e e2 C').withTk H.n (b, e2, c)) (H.push (.tok ty e0)) w' := by
  have hG : G.le ((G.withCells b e e2 C').withTk H.n (b, e2, c)) := (Gh.le_withCells hnone).trans (Gh.le_withTk hF.1.2.2)
  refine ⟨hG, h.below.trans (hw.below hn), by rw [hw.size]; exact h.size, fun b' k v hv => ?_, fun o y hy => ?_, fun o1 o2 x1 x2 b1 hx1 hx2 hb1 hb2 => ?_, fun b1 hb1 => ⟨by rw [hw.size]; exact (h.lt b1 hb1).1, fun o1 x1 hx1 hbx => ?_⟩, fun o ho => ?_, fun o ho => ?_, h.bare_cells hn⟩
  · have hv' : (G.withCells b e e2 C').mem b' k = some v := hv
    simp only [Gh.withCells] at hv'
    split at hv'
    · rename_i hk
      obtain ⟨rfl, _⟩ := hk
      unfold World.cell?
      rw [hC']
      simpa using hv'
    · have hm := h.mem _ _ _ hv'
      unfold World.cell? at hm ⊢
      by_cases hb : b' = b
      · subst hb
        have hk : k < e := by
          rcases Nat.lt_or_ge k e with h' | h'
          · exact h'
          · rw [hnone k h'] at hv'; cases hv'
        rw [hC] at hm
        rw [hC']
        simp only [Option.isSome_none, Bool.false_eq_true, if_false] at hm ⊢
        rw [hsame k hk]
        exact hm
      · rw [hw.other b' hb]
        exact hm
  · rw [AH.get_push] at hy
    split at hy
    · rename_i e1; cases hy; subst e1
      refine ⟨b, e2, c, C', fr, by simp [Gh.withTk], hn, he2, hC', hc, fun k hk => ?_, hfr, he0⟩
      show (G.withCells b e e2 C').mem b k = none
      simp only [Gh.withCells]
      rw [if_neg (by omega)]
      exact hnone k (by omega)
    · rename_i hne0
      refine (h.obj o y hy).mono hG fun b1 hb1 => ?_
      have hne : b1 ≠ b := by rintro rfl; exact hown o y hy hb1
      refine ⟨hw.other b1 hne, fun k => ?_⟩
      show (G.withCells b e e2 C').mem b1 k = _
      simp [Gh.withCells, hne]
  · have hnew : ∀ (x : AObj) (o' : Nat), H.get o' = some x → blkOf ((G.withCells b e e2 C').withTk H.n (b, e2, c)) o' x ≠ some b := fun x o' hx hb => hown o' x hx (h.blk_same hG hx hb)
    rw [AH.get_push] at hx1 hx2
    split at hx1 <;> split at hx2
    · omega
    · cases hx1
      simp [blkOf, Gh.withTk, *] at hb1
      subst hb1
      exact absurd hb2 (hnew _ _ hx2)
    · cases hx2
      simp [blkOf, Gh.withTk, *] at hb2
      subst hb2
      exact absurd hb1 (hnew _ _ hx1)
    · exact h.sep o1 o2 x1 x2 b1 hx1 hx2 (h.blk_same hG hx1 hb1) (h.blk_same hG hx2 hb2)
  · rw [AH.get_push] at hx1
    split at hx1
    · cases hx1
      simp [blkOf, Gh.withTk, *] at hbx
      subst hbx
      exact hlt hb1
    · exact (h.lt b1 hb1).2 o1 x1 hx1 (h.blk_same hG hx1 hbx)
  · have hne : o ≠ H.n := by
      rintro rfl
      rw [AH.get_push] at ho
      simp at ho
    exact Und.withTk (show Und (G.withCells b e e2 C') o from h.fresh o (get_none_push ho)) hne
  · have hne : o ≠ H.n := by rintro rfl; exact hF.2 ho
    exact ⟨Und.withTk (show Und (G.withCells b e e2 C') o from (h.res o ho).1) hne, get_dead_push hne (h.res o ho).2⟩

/-- An object of cells, at a new place. -/
theorem WRel.regen (h : WRel n0 w0 G H w) (hF : Free n0 G H) {o ty g fz : Nat} {cs cs' : List AV} (hx : H.get o = some (.cells ty g fz cs)) {b s e : Nat} {C' : Array Value} {fr : Nat × Nat} (hn : ¬ n0.K b)
    (hw : Keeps n0.K w w') (hmem : ∀ b' k v, G.mem b' k = some v → w'.cell? ⟨b', k, none⟩ = some v) (hoth : ∀ o' x b', H.get o' = some x → o' ≠ o → blkOf G o' x = some b' → b' ≠ b ∧ w'.heap[b']? = w.heap[b']?) (hlt : ¬ G.lt b)
    (hC' : w'.heap[b]? = some (.cells C' ty fr)) (he : e ≤ C'.size) (hs : s + cs'.length ≤ e) (hr : ∀ i (h : i < cs'.length) (h' : s + i < C'.size), Rep G cs'[i] C'[s + i]) (hno : ∀ k, G.mem b k = none) (hfr : ∀ k, s ≤ k → k < e → ¬ (fr.1 ≤ k ∧ k < fr.2)) :
    G.le (G.withLoc o (H.n + 1) (b, s, e)) ∧ WRel n0 w0 (G.withLoc o (H.n + 1) (b, s, e)) ((H.set o (.cells ty (H.n + 1) 0 cs')).push .dead) w' := by
  have hG : G.le (G.withLoc o (H.n + 1) (b, s, e)) := Gh.le_withLoc (hF.1.1 o).2
  have hget : ∀ o' y, ((H.set o (.cells ty (H.n + 1) 0 cs')).push .dead).get o' = some y → y = .dead ∨ (o' = o ∧ y = .cells ty (H.n + 1) 0 cs') ∨ ((o' ≠ o ∧ o' ≠ H.n) ∧ H.get o' = some y) := by
    intro o' y hy
    rw [AH.get_push] at hy
    split at hy
    · cases hy; exact .inl rfl
    · rename_i hnn
      rw [AH.get_set] at hy
      split at hy
      · cases hy; exact .inr (.inl ⟨by assumption, rfl⟩)
      · rename_i hno
        exact .inr (.inr ⟨⟨hno, hnn⟩, hy⟩)
  have hbo : blkOf (G.withLoc o (H.n + 1) (b, s, e)) o (.cells ty (H.n + 1) 0 cs') = some b := by simp [blkOf, Gh.withLoc]
  refine ⟨hG, h.below.trans hw, (fun b hb => Nat.lt_of_lt_of_le (h.size b hb) hw.size), fun b' k v hv => hmem b' k v hv, fun o' y hy => ?_, fun o1 o2 x1 x2 b1 hx1 hx2 hb1 hb2 => ?_, fun b1 hb1 => ⟨⟨(h.lt b1 hb1).1.1, Nat.lt_of_lt_of_le (h.lt b1 hb1).1.2 hw.size⟩, fun o1 x1 hx1 hbx => ?_⟩, fun o' ho' => ?_, fun o' ho' => ?_, h.bare⟩
  · rcases hget o' y hy with rfl | ⟨rfl, rfl⟩ | ⟨hne, hy⟩
    · trivial
    · exact ⟨b, s, e, C', fr, by simp [Gh.withLoc], hn, hC', he, hs, fun i hi hi' => (hr i hi hi').mono hG, hno, by simpa using hfr, fun h0 => by omega⟩
    · exact (h.obj o' y hy).mono hG fun b1 hb1 => ⟨(hoth o' y b1 hy hne.1 hb1).2, fun _ => rfl⟩
  · rcases hget o1 x1 hx1 with rfl | ⟨rfl, rfl⟩ | ⟨hne1, hy1⟩
    · simp [blkOf] at hb1
    · rcases hget o2 x2 hx2 with rfl | ⟨rfl, rfl⟩ | ⟨hne2, hy2⟩
      · simp [blkOf] at hb2
      · rfl
      · rw [hbo] at hb1; cases hb1
        exact absurd rfl (hoth o2 x2 b hy2 hne2.1 (h.blk_same hG hy2 hb2)).1
    · rcases hget o2 x2 hx2 with rfl | ⟨rfl, rfl⟩ | ⟨hne2, hy2⟩
      · simp [blkOf] at hb2
      · rw [hbo] at hb2; cases hb2
        exact absurd rfl (hoth o1 x1 b hy1 hne1.1 (h.blk_same hG hy1 hb1)).1
      · exact h.sep o1 o2 x1 x2 b1 hy1 hy2 (h.blk_same hG hy1 hb1) (h.blk_same hG hy2 hb2)
  · rcases hget o1 x1 hx1 with rfl | ⟨rfl, rfl⟩ | ⟨hne1, hy1⟩
    · simp [blkOf] at hbx
    · rw [hbo] at hbx; cases hbx; exact hlt hb1
    · exact (h.lt b1 hb1).2 o1 x1 hy1 (h.blk_same hG hy1 hbx)
  · have h1 := get_none_push ho'
    have hne2 : o' ≠ H.n := by
      rintro rfl
      rw [AH.get_push] at ho'
      simp at ho'
    have hne : o' ≠ o := by
      rintro rfl
      rw [AH.get_set] at h1
      simp at h1
    exact (h.fresh o' (get_none_set h1)).withLoc hne (by omega)
  · have hne2 : o' ≠ H.n := by rintro rfl; exact hF.2 ho'
    have hd := (h.res o' ho').2
    have hne : o' ≠ o := by rintro rfl; rw [hx] at hd; cases hd
    exact ⟨(h.res o' ho').1.withLoc hne (by omega), get_dead_push hne2 (get_dead_set hx (by simp) hd)⟩

end Go.Abs
