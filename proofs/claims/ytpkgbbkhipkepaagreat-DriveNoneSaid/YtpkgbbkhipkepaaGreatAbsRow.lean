/-
  THIS PROGRAM: what the abstract machine asks of it; the way from its answers to a row.
-/
import Derived.Test.YtpkgbbkhipkepaaGreatAbsFacts
import Derived.Test.YtpkgbbkhipkepaaGreatAbsTab
import Derived.Test.YtpkgbbkhipkepaaGreatAbsFastOk
import Derived.ProofKit
namespace Go.Proofs.YtpkgbbkhipkepaaGreat
open Go.Abs Go.ChangeShapes Go.WideShapes Go.ChangeAt Go.RowKit

/-! ### How the functions are looked up -/
/-- Function, region, operation: 1: by reference; 2: what is stored is frozen. -/
def annL : List (Nat × Nat × Nat × Nat) := [(187,5,5,1),(335,5,5,1),(219,3,2,1),(371,3,2,1),(259,3,13,1),(174,6,8,1),(321,3,0,1),(321,17,8,1),(81,3,10,1),(171,14,12,1),(235,0,1,1),(235,9,3,1),(30,30,4,2),(30,30,9,2)]
def annGo : List (Nat × Nat × Nat × Nat) → Nat → Nat → Nat → Nat
  | [], _, _, _ => 0
  | (a, b, c, d) :: l, f, r, i => if Nat.beq a f && (Nat.beq b r && Nat.beq c i) then d else annGo l f r i
def annF (f r i : Nat) : Nat := annGo annL f r i
/-- Functions whose results stay changeable. -/
def nofzF (f : Nat) : Bool := [187,335,219,371,316,260,314].any (Nat.beq f)
noncomputable def tab : FuncId → Option AFunc := prepFn Tryz.prog annF nofzF

theorem tab_ok : TabOk Tryz.prog tab := tabOk _ _ _

theorem follows_mixed : Tryz.prog.follows .mixedOrders = true := by kernel_rfl

theorem one_noEscape : (Tryz.prog.funcs.toList.zipIdx.all fun p => !(p.1.name == "internal/abi.NoEscape") || Nat.beq p.2 278) = true := by kernel_rfl

theorem ext_ok : ExtOk Tryz.prog := by
  refine ⟨fun f fn hf hb hn => ?_⟩
  have h := List.all_eq_true.1 one_noEscape (fn, f) (by
    rw [List.mem_zipIdx_iff_getElem?]
    simpa using hf)
  simp only [hn, beq_self_eq_true, Bool.not_true, Bool.false_or] at h
  have hf2 : f = 278 := Nat.eq_of_beq_eq_true h
  subst hf2
  have e : fn = Tryz.f278 := by
    have := hf.symm.trans Tryz.func278
    exact Option.some.inj this
  subst e
  exact ⟨by kernel_rfl, by kernel_rfl⟩

theorem call_ok (n : Nat) : CallOk Tryz.prog (callN tab n) := callN_ok ext_ok follows_mixed tab_ok n

/-- What the kernel's evaluator answers is what the machine does, in whatever world. -/
theorem calls_of_eval {g : FuncId} {xs : List AV} {us : List Value} {n : Nat} (h : okTrue (callK tab n (.f g) xs AH.empty) = true) (hr : Reps Gh.empty xs us) (w : World) :
    Calls Tryz.prog g us.toArray w fun e w' => e = .returned (.bool true) ∧ Below w.heap.size w w' := by
  obtain ⟨H, h⟩ := okTrue_spec h
  refine (closed_call (call_ok n) (callK_ok n _ _ _ _ h) hr w).mono ?_
  rintro e w' ⟨u, G, rfl, hrep, hb⟩
  rw [rep_true hrep]
  exact ⟨rfl, hb⟩

/-! ### The row's boundary -/
section
variable {H : Type} {enc : TypeId × Value → H} {P : Program}

/-- 'post_of_same', where what was there has not turned. -/
theorem post_of_below {f : Func} {s : ChangeSpec} {apart fresh handsOn again : Bool} {W W' : World} {args : Array Value} {v : Value} {ds gs : List (DataW H)} {before pa pv : List MemPlace}
    (hW : DataW.Whole enc P f.params.toList s.vars apart W args.toList ds gs before)
    (hres : ∀ (b : Nat) (sp : Nat → Bool) (hd : Bool), DataW.TrodAll enc P W' b sp hd f.resultTypes.toList (v.resultList f.resultTypes.size) (s.fn H (ds ++ gs)).results [])
    (hargs : ∀ sp : Nat → Bool, (∀ p ∈ before, sp p.block = true) → DataW.TrodAll enc P W' 0 sp true f.params.toList args.toList (s.fn H (ds ++ gs)).args pa)
    (hvars : ∀ sp : Nat → Bool, (∀ p ∈ before, sp p.block = true) → DataW.TrodVars enc P W' sp s.vars (s.fn H (ds ++ gs)).vars pv)
    (hps : before = pa ++ pv) (hb : Below W.heap.size W W')
    (hok : ∀ (j : Nat) (t : TypeId) (r : Value), f.resultTypes[j]? = some t → (v.resultList f.resultTypes.size)[j]? = some r → Value.okWide P W' .any 0 t r) :
    s.post enc P f apart fresh handsOn again W args v W' := by
  have hold : ∀ p ∈ before, (fun b => decide (b < W.heap.size)) p.block = true := fun p hp => by simpa using hW.lt p hp
  have hlt := hW.lt
  refine ⟨ds, gs, before, [], pa, pv, hW, hres _ _ _, hargs _ hold, hvars _ hold, World.keptBut_mono (fun p hp => ⟨hp, ?_⟩) (hb.frame (· ∈ before)), fun _ => ?_⟩
  · rw [hps, List.mem_append] at hp
    exact Or.inr hp
  · obtain ⟨_, _, _, _, _, hz, hn⟩ := hW
    refine ⟨hok, _, _, ([] ++ pa) ++ pv, ⟨[] ++ pa, pv, trodAll_append (hargs _ (fun _ _ => rfl)) (hres _ _ _), hvars _ (fun _ _ => rfl), rfl, ?_, ?_⟩, ?_⟩
    · intro b off hp
      have hp' : MemPlace.cell b off ∈ before := by rw [hps]; simpa using hp
      rw [hb.frozen (hlt _ hp')]
      exact hz b off hp'
    · intro ha
      have := hn ha
      rw [hps] at this
      simpa using this
    · intro p hp _
      rw [hps]
      simpa using hp
end

end Go.Proofs.YtpkgbbkhipkepaaGreat
