/- HandTrue: for every argument the law returns true, and each argument reads as before. No condition. -/
import Derived.Test.YtkhjmedfhobebaaGreatFacts
import Derived.Test.YtkhjmedfhobebaaGreatLawT
import Derived.Test.YtkhjmedfhobebaaGreatOpen
import Derived.ProofKit
import Derived.OpenShut
namespace Go.Proofs.YtkhjmedfhobebaaGreat
open Go.RowKit HandSpec Go.ChangeShapes Go.WideShapes Go.ChangeAt
theorem ownKnob_none : ownKnob Tryz.prog.godebug = none := by kernel_rfl
theorem readable5 : Tryz.prog.readableRec 5 = true ∧ 5 < Tryz.prog.types.size := ⟨by kernel_rfl, of_decide_eq_true (by kernel_rfl)⟩
theorem readable99 : Tryz.prog.readableRec 99 = true ∧ 99 < Tryz.prog.types.size := ⟨by kernel_rfl, of_decide_eq_true (by kernel_rfl)⟩
set_option maxRecDepth 100000 in
theorem lifted12 (os : Os) (started : os.Started) (H : Type) (enc : TypeId × Value → H) :
    ReturnsInHanded {} Tryz.checked os 12 .any (Rows.handTrueSpec.pre6 enc Tryz.prog Tryz.f12 Rows.handTrueRow.domain false) (Rows.handTrueSpec.post enc Tryz.prog Tryz.f12 false true false false) := by
  refine returnsInHanded_of_change (C := Tryz.checked) ownKnob_none started (by kernel_rfl) Tryz.func12
    (ChangeSpec.witness6 (enc := enc) (C := Tryz.checked) false ⟨#[], #[.slice none 0 0, .int .u8 0], []⟩ 8 (by kernel_rfl) (by kernel_rfl) (by kernel_rfl) (by kernel_rfl)) ?_
  intro W base args ds gs before hval0 hW hcnd _
  have hval : ∀ (j : Nat) t v, Tryz.f12.params[j]? = some t → args[j]? = some v → Value.okWide Tryz.prog W .any base t v := hval0
  have hW' := hW
  obtain ⟨p, q, hA0, hV, rfl, hfz, hnd⟩ := hW
  have hA : DataW.TrodAll enc Tryz.prog W 0 (fun _ => true) true Tryz.f12.params.toList args.toList ds p := hA0
  obtain ⟨rfl, rfl⟩ := trodVars_none hV
  have hlt : ∀ x ∈ p, x.block < W.heap.size := fun x hx => hW'.lt x (by simpa using hx)
  have hA1 := hA
  rw [Tryz.params12] at hA hval
  obtain ⟨v0, v1, d0, d1, p0, p1, rfl, rfl, rfl, h0, h1⟩ := trodAll_two hA
  obtain ⟨A0, n0, cap0, rfl, hb0⟩ := open99 (hval 0 99 v0 rfl rfl) h0
  obtain ⟨k1, rfl, -, -, hk1⟩ := open_int Tryz.underlying5 (hval 1 5 v1 rfl rfl) h1
  obtain ⟨j1, rfl, hj1⟩ := u8_nat hk1
  simp only [List.append_nil] at hW'
  refine (law12 hb0 hj1).mono fun e W' ⟨he, hb⟩ => ?_
  subst he
  exact ⟨_, rfl, post_later (pa := p0 ++ p1) (pv := []) hW' (fun _ _ _ => trodAll_mk1 (shut_bool Tryz.underlying4 _))
    (fun sp hsp => stays hb (by rw [Tryz.params12]; simp only [List.forall_mem_cons]; exact ⟨readable99, readable5, fun _ h => by simp at h⟩) hA1 hlt hsp) (fun _ _ => rfl) (by simp) hb (ok_one (by kernel_rfl) rfl (okWide_bool_mk Tryz.underlying4 _))⟩
set_option maxRecDepth 100000
theorem handTrueF0 : (Rows.handTrueRow.wf (OpenSpec.ofChange Rows.handTrueSpec)) = true := by kernel_rfl
theorem handTrueF3 : (Tryz.f12.params.all (Tryz.prog.readableRec ·)) = true := by kernel_rfl
theorem handTrueF4 : (namedTie Tryz.prog Rows.handTrueRow.named Rows.handTrueSpec.vars) = true := by kernel_rfl
theorem handTrueF5 : (Rows.handTrueRow.stops == []) = true := by kernel_rfl
theorem handTrueF7 : (Rows.handTrueRow.knobs == []) = true := by kernel_rfl
theorem handTrueF9 : (Rows.handTrueRow.inPlace == Tryz.prog.inPlace 12) = true := by kernel_rfl
theorem handTrueF10 : (Rows.handTrueRow.unfollowed == Tryz.prog.unfollowed 12) = true := by kernel_rfl
theorem handTrueF11 : (Rows.handTrueRow.recurses == Tryz.prog.recurses 12) = true := by kernel_rfl
theorem handTrueF12 : (Rows.handTrueRow.named == Tryz.prog.varsNamed 12) = true := by kernel_rfl
theorem handTrueF13 : (Rows.handTrueRow.maps == (Tryz.f12.params.toList ++ Rows.handTrueSpec.plain.varTypes Tryz.prog).any (Tryz.prog.mapsRec ·)) = true := by kernel_rfl
theorem handTrueF14 : (Rows.handTrueRow.ifaces == (Tryz.f12.params.toList ++ Rows.handTrueSpec.plain.varTypes Tryz.prog).any (Tryz.prog.ifacesRec ·)) = true := by kernel_rfl
theorem handTrueF15 : (Rows.handTrueRow.mapsOut == Tryz.prog.mapsAmong Tryz.f12.resultTypes.toList) = true := by kernel_rfl
theorem handTrueF16 : (Rows.handTrueRow.loops == (Tryz.f12.params.toList ++ Rows.handTrueSpec.plain.varTypes Tryz.prog).any (Tryz.prog.loopsFrom ·)) = true := by kernel_rfl
theorem handTrueF17 : (Rows.handTrueRow.wideKeys == (Tryz.f12.params.toList ++ Rows.handTrueSpec.plain.varTypes Tryz.prog ++ Tryz.f12.resultTypes.toList).any (Tryz.prog.wideKeysFrom ·)) = true := by kernel_rfl
theorem handTrueF18 : (Rows.handTrueSpec.vars.all (Tryz.prog.varReadable ·)) = true := by kernel_rfl
theorem handTrueF19 : (Tryz.f12.resultTypes.all (fun t => Tryz.prog.readableRec t && decide (t < Tryz.prog.types.size))) = true := by kernel_rfl
theorem handTrueF20 : (Rows.handTrueRow.ifacesOut == Tryz.f12.resultTypes.toList.any (Tryz.prog.ifacesRec ·)) = true := by kernel_rfl
theorem handTrueF21 : (Rows.handTrueRow.loopsOut == Tryz.f12.resultTypes.toList.any (Tryz.prog.loopsFrom ·)) = true := by kernel_rfl
theorem handTrueF22 : (Rows.handTrueRow.plainKeys == Tryz.prog.plainKeys) = true := eqT factPlain (by kernel_rfl)
theorem handTrueF23 : (Rows.handTrueRow.shortTexts.isNone) = true := by kernel_rfl
theorem handTrueF26 : (Rows.handTrueRow.lifted == Tryz.prog.liftsFinal) = true := by rw [factLifts]; kernel_rfl
theorem handTrueF27 : (Tryz.prog.make == some Rows.handTrueRow.make) = true := factMake
theorem handTrueF28 : (Rows.handTrueRow.kinds == (if Rows.handTrueRow.domain.isEmpty then [] else Tryz.f12.params.toList.map fun t => match Tryz.prog.underlying t with | some (.int k) => some k | _ => none)) = true := by kernel_rfl
theorem handTrueF29 : (Rows.handTrueRow.pinned == Rows.handTrueRow.pinnedBy) = true := by kernel_rfl
theorem handTrueF30 : (Rows.handTrueRow.veiled == (Tryz.f12.params.toList ++ Rows.handTrueSpec.plain.varTypes Tryz.prog ++ Tryz.f12.resultTypes.toList).any (Tryz.prog.veiledRec ·)) = true := by kernel_rfl
theorem handTrueF31 : (Rows.handTrueRow.veiledFits Tryz.prog Tryz.f12.params.toList (Tryz.f12.params.toList ++ Rows.handTrueSpec.plain.varTypes Tryz.prog ++ Tryz.f12.resultTypes.toList)) = true := by kernel_rfl
theorem handTrueJoined : joinedFacts Tryz.prog 12 Tryz.f12 Rows.handTrueSpec Rows.handTrueRow = true := (andT (andT (andT (andT (andT (andT (andT (andT (andT (andT (andT (andT (andT (andT (andT (andT (andT (andT (andT (andT (andT (andT (andT (andT (andT (andT (andT (andT (andT (andT (andT handTrueF0 fact1) fact2) handTrueF3) handTrueF4) handTrueF5) fact6) handTrueF7) fact8) handTrueF9) handTrueF10) handTrueF11) handTrueF12) handTrueF13) handTrueF14) handTrueF15) handTrueF16) handTrueF17) handTrueF18) handTrueF19) handTrueF20) handTrueF21) handTrueF22) handTrueF23) fact24) fact25) handTrueF26) handTrueF27) handTrueF28) handTrueF29) handTrueF30) handTrueF31)
theorem handTrue_holds : Rows.HandTrueSaid :=
  OpenClaim.holds_of_wide 12 Tryz.f12 rfl rfl rfl rfl rfl rfl rfl ⟨rfl, rfl, rfl, rfl, rfl⟩ rfl rfl rfl rfl rfl (by kernel_rfl) Tryz.func12 handTrueJoined
    (of_decide_eq_true (by kernel_rfl)) (by unfold Func.isWrapper; rw [if_neg (of_decide_eq_false (by kernel_rfl))]; exact ⟨rfl, rfl⟩)
    (fun os started H enc _ => lifted12 os started H enc)
#print axioms handTrue_holds
end Go.Proofs.YtkhjmedfhobebaaGreat
