/- HandFewest: for every argument the law returns true, and each argument reads as before. No condition. -/
import Derived.Test.YtkhjmedfhobebaaGreatFacts
import Derived.Test.YtkhjmedfhobebaaGreatLawF
import Derived.Test.YtkhjmedfhobebaaGreatOpen
import Derived.ProofKit
import Derived.OpenShut
namespace Go.Proofs.YtkhjmedfhobebaaGreat
open Go.RowKit HandSpec Go.ChangeShapes Go.WideShapes Go.ChangeAt
theorem ownKnob_none : ownKnob Tryz.prog.godebug = none := by kernel_rfl
theorem readable26 : Tryz.prog.readableRec 26 = true ∧ 26 < Tryz.prog.types.size := ⟨by kernel_rfl, of_decide_eq_true (by kernel_rfl)⟩
set_option maxRecDepth 100000 in
theorem lifted4 (os : Os) (started : os.Started) (H : Type) (enc : TypeId × Value → H) :
    ReturnsInHanded {} Tryz.checked os 4 .any (Rows.handFewestSpec.pre6 enc Tryz.prog Tryz.f4 Rows.handFewestRow.domain false) (Rows.handFewestSpec.post enc Tryz.prog Tryz.f4 false true false false) := by
  refine returnsInHanded_of_change (C := Tryz.checked) ownKnob_none started (by kernel_rfl) Tryz.func4
    (ChangeSpec.witness6 (enc := enc) (C := Tryz.checked) false ⟨#[], #[.agg #[.int .i64 0, .int .i64 0, .int .i64 0, .slice none 0 0, .slice none 0 0, .slice none 0 0]], []⟩ 8 (by kernel_rfl) (by kernel_rfl) (by kernel_rfl) (by kernel_rfl)) ?_
  intro W base args ds gs before hval0 hW hcnd _
  have hval : ∀ (j : Nat) t v, Tryz.f4.params[j]? = some t → args[j]? = some v → Value.okWide Tryz.prog W .any base t v := hval0
  have hW' := hW
  obtain ⟨p, q, hA0, hV, rfl, hfz, hnd⟩ := hW
  have hA : DataW.TrodAll enc Tryz.prog W 0 (fun _ => true) true Tryz.f4.params.toList args.toList ds p := hA0
  obtain ⟨rfl, rfl⟩ := trodVars_none hV
  have hlt : ∀ x ∈ p, x.block < W.heap.size := fun x hx => hW'.lt x (by simpa using hx)
  have hA1 := hA
  rw [Tryz.params4] at hA hval
  obtain ⟨v0, d0, rfl, rfl, h0⟩ := trodAll_one hA
  obtain ⟨x, hx⟩ := open26 (hval 0 26 v0 rfl rfl) h0
  simp only [List.append_nil] at hW'
  refine (law4 hx).mono fun e W' ⟨he, hb⟩ => ?_
  subst he
  exact ⟨_, rfl, post_later (pa := p) (pv := []) hW' (fun _ _ _ => trodAll_mk1 (shut_bool Tryz.underlying4 _))
    (fun sp hsp => stays hb (by rw [Tryz.params4]; simp only [List.forall_mem_cons]; exact ⟨readable26, fun _ h => by simp at h⟩) hA1 hlt hsp) (fun _ _ => rfl) (by simp) hb (ok_one (by kernel_rfl) rfl (okWide_bool_mk Tryz.underlying4 _))⟩
set_option maxRecDepth 100000
theorem handFewestF0 : (Rows.handFewestRow.wf (OpenSpec.ofChange Rows.handFewestSpec)) = true := by kernel_rfl
theorem handFewestF3 : (Tryz.f4.params.all (Tryz.prog.readableRec ·)) = true := by kernel_rfl
theorem handFewestF4 : (namedTie Tryz.prog Rows.handFewestRow.named Rows.handFewestSpec.vars) = true := by kernel_rfl
theorem handFewestF5 : (Rows.handFewestRow.stops == []) = true := by kernel_rfl
theorem handFewestF7 : (Rows.handFewestRow.knobs == []) = true := by kernel_rfl
theorem handFewestF9 : (Rows.handFewestRow.inPlace == Tryz.prog.inPlace 4) = true := by kernel_rfl
theorem handFewestF10 : (Rows.handFewestRow.unfollowed == Tryz.prog.unfollowed 4) = true := by kernel_rfl
theorem handFewestF11 : (Rows.handFewestRow.recurses == Tryz.prog.recurses 4) = true := by kernel_rfl
theorem handFewestF12 : (Rows.handFewestRow.named == Tryz.prog.varsNamed 4) = true := by kernel_rfl
theorem handFewestF13 : (Rows.handFewestRow.maps == (Tryz.f4.params.toList ++ Rows.handFewestSpec.plain.varTypes Tryz.prog).any (Tryz.prog.mapsRec ·)) = true := by kernel_rfl
theorem handFewestF14 : (Rows.handFewestRow.ifaces == (Tryz.f4.params.toList ++ Rows.handFewestSpec.plain.varTypes Tryz.prog).any (Tryz.prog.ifacesRec ·)) = true := by kernel_rfl
theorem handFewestF15 : (Rows.handFewestRow.mapsOut == Tryz.prog.mapsAmong Tryz.f4.resultTypes.toList) = true := by kernel_rfl
theorem handFewestF16 : (Rows.handFewestRow.loops == (Tryz.f4.params.toList ++ Rows.handFewestSpec.plain.varTypes Tryz.prog).any (Tryz.prog.loopsFrom ·)) = true := by kernel_rfl
theorem handFewestF17 : (Rows.handFewestRow.wideKeys == (Tryz.f4.params.toList ++ Rows.handFewestSpec.plain.varTypes Tryz.prog ++ Tryz.f4.resultTypes.toList).any (Tryz.prog.wideKeysFrom ·)) = true := by kernel_rfl
theorem handFewestF18 : (Rows.handFewestSpec.vars.all (Tryz.prog.varReadable ·)) = true := by kernel_rfl
theorem handFewestF19 : (Tryz.f4.resultTypes.all (fun t => Tryz.prog.readableRec t && decide (t < Tryz.prog.types.size))) = true := by kernel_rfl
theorem handFewestF20 : (Rows.handFewestRow.ifacesOut == Tryz.f4.resultTypes.toList.any (Tryz.prog.ifacesRec ·)) = true := by kernel_rfl
theorem handFewestF21 : (Rows.handFewestRow.loopsOut == Tryz.f4.resultTypes.toList.any (Tryz.prog.loopsFrom ·)) = true := by kernel_rfl
theorem handFewestF22 : (Rows.handFewestRow.plainKeys == Tryz.prog.plainKeys) = true := eqT factPlain (by kernel_rfl)
theorem handFewestF23 : (Rows.handFewestRow.shortTexts.isNone) = true := by kernel_rfl
theorem handFewestF26 : (Rows.handFewestRow.lifted == Tryz.prog.liftsFinal) = true := by rw [factLifts]; kernel_rfl
theorem handFewestF27 : (Tryz.prog.make == some Rows.handFewestRow.make) = true := factMake
theorem handFewestF28 : (Rows.handFewestRow.kinds == (if Rows.handFewestRow.domain.isEmpty then [] else Tryz.f4.params.toList.map fun t => match Tryz.prog.underlying t with | some (.int k) => some k | _ => none)) = true := by kernel_rfl
theorem handFewestF29 : (Rows.handFewestRow.pinned == Rows.handFewestRow.pinnedBy) = true := by kernel_rfl
theorem handFewestF30 : (Rows.handFewestRow.veiled == (Tryz.f4.params.toList ++ Rows.handFewestSpec.plain.varTypes Tryz.prog ++ Tryz.f4.resultTypes.toList).any (Tryz.prog.veiledRec ·)) = true := by kernel_rfl
theorem handFewestF31 : (Rows.handFewestRow.veiledFits Tryz.prog Tryz.f4.params.toList (Tryz.f4.params.toList ++ Rows.handFewestSpec.plain.varTypes Tryz.prog ++ Tryz.f4.resultTypes.toList)) = true := by kernel_rfl
theorem handFewestJoined : joinedFacts Tryz.prog 4 Tryz.f4 Rows.handFewestSpec Rows.handFewestRow = true := (andT (andT (andT (andT (andT (andT (andT (andT (andT (andT (andT (andT (andT (andT (andT (andT (andT (andT (andT (andT (andT (andT (andT (andT (andT (andT (andT (andT (andT (andT (andT handFewestF0 fact1) fact2) handFewestF3) handFewestF4) handFewestF5) fact6) handFewestF7) fact8) handFewestF9) handFewestF10) handFewestF11) handFewestF12) handFewestF13) handFewestF14) handFewestF15) handFewestF16) handFewestF17) handFewestF18) handFewestF19) handFewestF20) handFewestF21) handFewestF22) handFewestF23) fact24) fact25) handFewestF26) handFewestF27) handFewestF28) handFewestF29) handFewestF30) handFewestF31)
theorem handFewest_holds : Rows.HandFewestSaid :=
  OpenClaim.holds_of_wide 4 Tryz.f4 rfl rfl rfl rfl rfl rfl rfl ⟨rfl, rfl, rfl, rfl, rfl⟩ rfl rfl rfl rfl rfl (by kernel_rfl) Tryz.func4 handFewestJoined
    (of_decide_eq_true (by kernel_rfl)) (by unfold Func.isWrapper; rw [if_neg (of_decide_eq_false (by kernel_rfl))]; exact ⟨rfl, rfl⟩)
    (fun os started H enc _ => lifted4 os started H enc)
#print axioms handFewest_holds
end Go.Proofs.YtkhjmedfhobebaaGreat
