/- HandNamed: for every argument the law returns true, and each argument reads as before. No condition. -/
import Derived.Test.YtkhjmedfhobebaaGreatFacts
import Derived.Test.YtkhjmedfhobebaaGreatLawN
import Derived.Test.YtkhjmedfhobebaaGreatOpen
import Derived.ProofKit
import Derived.OpenShut
namespace Go.Proofs.YtkhjmedfhobebaaGreat
open Go.RowKit HandSpec Go.ChangeShapes Go.WideShapes Go.ChangeAt
theorem ownKnob_none : ownKnob Tryz.prog.godebug = none := by kernel_rfl
theorem readable99 : Tryz.prog.readableRec 99 = true ∧ 99 < Tryz.prog.types.size := ⟨by kernel_rfl, of_decide_eq_true (by kernel_rfl)⟩
set_option maxRecDepth 100000 in
theorem lifted15 (os : Os) (started : os.Started) (H : Type) (enc : TypeId × Value → H) :
    ReturnsInHanded {} Tryz.checked os 15 .any (Rows.handNamedSpec.pre6 enc Tryz.prog Tryz.f15 Rows.handNamedRow.domain false) (Rows.handNamedSpec.post enc Tryz.prog Tryz.f15 false true false false) := by
  refine returnsInHanded_of_change (C := Tryz.checked) ownKnob_none started (by kernel_rfl) Tryz.func15
    (ChangeSpec.witness6 (enc := enc) (C := Tryz.checked) false ⟨#[], #[.slice none 0 0, .slice none 0 0], []⟩ 8 (by kernel_rfl) (by kernel_rfl) (by kernel_rfl) (by kernel_rfl)) ?_
  intro W base args ds gs before hval0 hW hcnd _
  have hval : ∀ (j : Nat) t v, Tryz.f15.params[j]? = some t → args[j]? = some v → Value.okWide Tryz.prog W .any base t v := hval0
  have hW' := hW
  obtain ⟨p, q, hA0, hV, rfl, hfz, hnd⟩ := hW
  have hA : DataW.TrodAll enc Tryz.prog W 0 (fun _ => true) true Tryz.f15.params.toList args.toList ds p := hA0
  obtain ⟨rfl, rfl⟩ := trodVars_none hV
  have hlt : ∀ x ∈ p, x.block < W.heap.size := fun x hx => hW'.lt x (by simpa using hx)
  have hA1 := hA
  rw [Tryz.params15] at hA hval
  obtain ⟨v0, v1, d0, d1, p0, p1, rfl, rfl, rfl, h0, h1⟩ := trodAll_two hA
  obtain ⟨A0, n0, cap0, rfl, hb0⟩ := open99 (hval 0 99 v0 rfl rfl) h0
  obtain ⟨A1, n1, cap1, rfl, hb1⟩ := open99 (hval 1 99 v1 rfl rfl) h1
  simp only [List.append_nil] at hW'
  refine (law15 hb0 hb1).mono fun e W' ⟨he, hb⟩ => ?_
  subst he
  exact ⟨_, rfl, post_later (pa := p0 ++ p1) (pv := []) hW' (fun _ _ _ => trodAll_mk1 (shut_bool Tryz.underlying4 _))
    (fun sp hsp => stays hb (by rw [Tryz.params15]; simp only [List.forall_mem_cons]; exact ⟨readable99, readable99, fun _ h => by simp at h⟩) hA1 hlt hsp) (fun _ _ => rfl) (by simp) hb (ok_one (by kernel_rfl) rfl (okWide_bool_mk Tryz.underlying4 _))⟩
set_option maxRecDepth 100000
theorem handNamedF0 : (Rows.handNamedRow.wf (OpenSpec.ofChange Rows.handNamedSpec)) = true := by kernel_rfl
theorem handNamedF3 : (Tryz.f15.params.all (Tryz.prog.readableRec ·)) = true := by kernel_rfl
theorem handNamedF4 : (namedTie Tryz.prog Rows.handNamedRow.named Rows.handNamedSpec.vars) = true := by kernel_rfl
theorem handNamedF5 : (Rows.handNamedRow.stops == []) = true := by kernel_rfl
theorem handNamedF7 : (Rows.handNamedRow.knobs == []) = true := by kernel_rfl
theorem handNamedF9 : (Rows.handNamedRow.inPlace == Tryz.prog.inPlace 15) = true := by kernel_rfl
theorem handNamedF10 : (Rows.handNamedRow.unfollowed == Tryz.prog.unfollowed 15) = true := by kernel_rfl
theorem handNamedF11 : (Rows.handNamedRow.recurses == Tryz.prog.recurses 15) = true := by kernel_rfl
theorem handNamedF12 : (Rows.handNamedRow.named == Tryz.prog.varsNamed 15) = true := by kernel_rfl
theorem handNamedF13 : (Rows.handNamedRow.maps == (Tryz.f15.params.toList ++ Rows.handNamedSpec.plain.varTypes Tryz.prog).any (Tryz.prog.mapsRec ·)) = true := by kernel_rfl
theorem handNamedF14 : (Rows.handNamedRow.ifaces == (Tryz.f15.params.toList ++ Rows.handNamedSpec.plain.varTypes Tryz.prog).any (Tryz.prog.ifacesRec ·)) = true := by kernel_rfl
theorem handNamedF15 : (Rows.handNamedRow.mapsOut == Tryz.prog.mapsAmong Tryz.f15.resultTypes.toList) = true := by kernel_rfl
theorem handNamedF16 : (Rows.handNamedRow.loops == (Tryz.f15.params.toList ++ Rows.handNamedSpec.plain.varTypes Tryz.prog).any (Tryz.prog.loopsFrom ·)) = true := by kernel_rfl
theorem handNamedF17 : (Rows.handNamedRow.wideKeys == (Tryz.f15.params.toList ++ Rows.handNamedSpec.plain.varTypes Tryz.prog ++ Tryz.f15.resultTypes.toList).any (Tryz.prog.wideKeysFrom ·)) = true := by kernel_rfl
theorem handNamedF18 : (Rows.handNamedSpec.vars.all (Tryz.prog.varReadable ·)) = true := by kernel_rfl
theorem handNamedF19 : (Tryz.f15.resultTypes.all (fun t => Tryz.prog.readableRec t && decide (t < Tryz.prog.types.size))) = true := by kernel_rfl
theorem handNamedF20 : (Rows.handNamedRow.ifacesOut == Tryz.f15.resultTypes.toList.any (Tryz.prog.ifacesRec ·)) = true := by kernel_rfl
theorem handNamedF21 : (Rows.handNamedRow.loopsOut == Tryz.f15.resultTypes.toList.any (Tryz.prog.loopsFrom ·)) = true := by kernel_rfl
theorem handNamedF22 : (Rows.handNamedRow.plainKeys == Tryz.prog.plainKeys) = true := eqT factPlain (by kernel_rfl)
theorem handNamedF23 : (Rows.handNamedRow.shortTexts.isNone) = true := by kernel_rfl
theorem handNamedF26 : (Rows.handNamedRow.lifted == Tryz.prog.liftsFinal) = true := by rw [factLifts]; kernel_rfl
theorem handNamedF27 : (Tryz.prog.make == some Rows.handNamedRow.make) = true := factMake
theorem handNamedF28 : (Rows.handNamedRow.kinds == (if Rows.handNamedRow.domain.isEmpty then [] else Tryz.f15.params.toList.map fun t => match Tryz.prog.underlying t with | some (.int k) => some k | _ => none)) = true := by kernel_rfl
theorem handNamedF29 : (Rows.handNamedRow.pinned == Rows.handNamedRow.pinnedBy) = true := by kernel_rfl
theorem handNamedF30 : (Rows.handNamedRow.veiled == (Tryz.f15.params.toList ++ Rows.handNamedSpec.plain.varTypes Tryz.prog ++ Tryz.f15.resultTypes.toList).any (Tryz.prog.veiledRec ·)) = true := by kernel_rfl
theorem handNamedF31 : (Rows.handNamedRow.veiledFits Tryz.prog Tryz.f15.params.toList (Tryz.f15.params.toList ++ Rows.handNamedSpec.plain.varTypes Tryz.prog ++ Tryz.f15.resultTypes.toList)) = true := by kernel_rfl
theorem handNamedJoined : joinedFacts Tryz.prog 15 Tryz.f15 Rows.handNamedSpec Rows.handNamedRow = true := (andT (andT (andT (andT (andT (andT (andT (andT (andT (andT (andT (andT (andT (andT (andT (andT (andT (andT (andT (andT (andT (andT (andT (andT (andT (andT (andT (andT (andT (andT (andT handNamedF0 fact1) fact2) handNamedF3) handNamedF4) handNamedF5) fact6) handNamedF7) fact8) handNamedF9) handNamedF10) handNamedF11) handNamedF12) handNamedF13) handNamedF14) handNamedF15) handNamedF16) handNamedF17) handNamedF18) handNamedF19) handNamedF20) handNamedF21) handNamedF22) handNamedF23) fact24) fact25) handNamedF26) handNamedF27) handNamedF28) handNamedF29) handNamedF30) handNamedF31)
theorem handNamed_holds : Rows.HandNamedSaid :=
  OpenClaim.holds_of_wide 15 Tryz.f15 rfl rfl rfl rfl rfl rfl rfl ⟨rfl, rfl, rfl, rfl, rfl⟩ rfl rfl rfl rfl rfl (by kernel_rfl) Tryz.func15 handNamedJoined
    (of_decide_eq_true (by kernel_rfl)) (by unfold Func.isWrapper; rw [if_neg (of_decide_eq_false (by kernel_rfl))]; exact ⟨rfl, rfl⟩)
    (fun os started H enc _ => lifted15 os started H enc)
#print axioms handNamed_holds
end Go.Proofs.YtkhjmedfhobebaaGreat
