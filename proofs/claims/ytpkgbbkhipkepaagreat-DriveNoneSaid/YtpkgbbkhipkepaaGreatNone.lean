/-
  FOR EVERY INPUT DriveNone RETURNS true, and each argument reads behind the call as it read before. No condition.
-/
import Derived.Test.YtpkgbbkhipkepaaGreatNoneEval
namespace Go.Proofs.YtpkgbbkhipkepaaGreat
open Go.Abs Go.ChangeShapes Go.WideShapes Go.ChangeAt Go.RowKit

theorem driveNone_calls (a b : Int) (w : World) : Calls Tryz.prog 12 #[.int .i64 a, .int .i64 b] w fun e w' => e = .returned (.bool true) ∧ Below w.heap.size w w' :=
  calls_of_eval (us := [.int .i64 a, .int .i64 b]) (driveNone_eval a b) (Reps.cons (.lit rfl) (Reps.cons (.lit rfl) .nil)) w

set_option maxRecDepth 100000 in
theorem driveNone_lifted (os : Os) (started : os.Started) (H : Type) (enc : TypeId × Value → H) :
    ReturnsInHanded {} Tryz.checked os 12 .any (Rows.driveNoneSpec.pre6 enc Tryz.prog Tryz.f12 Rows.driveNoneRow.domain false) (Rows.driveNoneSpec.post enc Tryz.prog Tryz.f12 false true false false) := by
  refine returnsInHanded_of_change (C := Tryz.checked) Tryz.own started (by kernel_rfl) Tryz.func12
    (ChangeSpec.witness6 (enc := enc) (C := Tryz.checked) false ⟨#[], #[.int .i64 0, .int .i64 0], []⟩ 8 (by kernel_rfl) (by kernel_rfl) (by kernel_rfl) (by kernel_rfl)) ?_
  intro W base args ds gs before hval0 hW hcnd _
  have hval : ∀ (j : Nat) t v, Tryz.f12.params[j]? = some t → args[j]? = some v → Value.okWide Tryz.prog W .any base t v := hval0
  have hW' := hW
  obtain ⟨p, q, hA0, hV, rfl, hfz, hnd⟩ := hW
  have hA : DataW.TrodAll enc Tryz.prog W 0 (fun _ => true) true Tryz.f12.params.toList args.toList ds p := hA0
  rw [Tryz.params12] at hA hval
  obtain ⟨v0, v1, d0, d1, p0, p1, rfl, rfl, rfl, h0, h1⟩ := trodAll_two hA
  obtain ⟨rfl, rfl⟩ := trodVars_none hV
  obtain ⟨a, rfl, rfl, rfl, wa⟩ := open_int Tryz.underlying3 (hval 0 3 v0 rfl rfl) h0
  obtain ⟨b, rfl, rfl, rfl, wb⟩ := open_int Tryz.underlying3 (hval 1 3 v1 rfl rfl) h1
  clear hA0 hval0
  simp only [List.append_nil] at hW'
  refine (driveNone_calls a b W).mono fun e W' ⟨he, hb⟩ => ?_
  subst he
  exact ⟨_, rfl, post_of_below (pa := []) (pv := []) hW' (fun _ _ _ => trodAll_mk1 (shut_bool Tryz.underlying4 _)) (fun sp _ => trodAll_mk2 (shut_int Tryz.underlying3 wa) (shut_int Tryz.underlying3 wb)) (fun _ _ => rfl) rfl
    hb (ok_one (by kernel_rfl) rfl (okWide_bool_mk Tryz.underlying4 _))⟩

theorem driveNone_inPlace : (Rows.driveNoneRow.inPlace == Tryz.prog.inPlace 12) = true := by kernel_rfl
theorem driveNone_unfollowed : (Rows.driveNoneRow.unfollowed == Tryz.prog.unfollowed 12) = true := by kernel_rfl
theorem driveNone_recurses : (Rows.driveNoneRow.recurses == Tryz.prog.recurses 12) = true := by kernel_rfl
theorem driveNone_named : (Rows.driveNoneRow.named == Tryz.prog.varsNamed 12) = true := by kernel_rfl

theorem driveNone_closed : joinedFacts Tryz.prog 12 Tryz.f12 Rows.driveNoneSpec Rows.driveNoneRow = true := by
  unfold joinedFacts
  rw [driveNone_inPlace, driveNone_unfollowed, driveNone_recurses, driveNone_named, Tryz.laidOut, Tryz.rowed, Tryz.noStops, Tryz.noKnobs, Tryz.heard, Tryz.enters,
    show (Rows.driveNoneRow.lifted == Tryz.prog.liftsFinal) = true from Tryz.lifts, show (Tryz.prog.make == some Rows.driveNoneRow.make) = true from Tryz.maker]
  kernel_rfl

theorem driveNone_holds : Rows.DriveNoneSaid :=
  OpenClaim.holds_of_wide 12 Tryz.f12 rfl rfl rfl rfl rfl rfl rfl ⟨rfl, rfl, rfl, rfl, rfl⟩ rfl rfl rfl rfl rfl (by kernel_rfl) Tryz.func12 driveNone_closed
    (of_decide_eq_true (by kernel_rfl)) (by unfold Func.isWrapper; first | (rw [if_pos (by decide +kernel)]; kernel_rfl) | (rw [if_neg (by decide +kernel)]; exact ⟨rfl, rfl⟩))
    (fun os started H enc _ => driveNone_lifted os started H enc)
#print axioms driveNone_holds

end Go.Proofs.YtpkgbbkhipkepaaGreat
