/- HandExplains: for every argument the law returns true, and each argument reads as before. No condition. -/
import Derived.Test.YtkhjmedfhobebaaGreatFacts
import Derived.Test.YtkhjmedfhobebaaGreatLawE
import Derived.Test.YtkhjmedfhobebaaGreatOpen
import Derived.ProofKit
import Derived.OpenShut
namespace Go.Proofs.YtkhjmedfhobebaaGreat
open Go.RowKit HandSpec Go.ChangeShapes Go.WideShapes Go.ChangeAt
theorem ownKnob_none : ownKnob Tryz.prog.godebug = none := by kernel_rfl
theorem readable26 : Tryz.prog.readableRec 26 = true ∧ 26 < Tryz.prog.types.size := ⟨by kernel_rfl, of_decide_eq_true (by kernel_rfl)⟩
theorem readable56 : Tryz.prog.readableRec 56 = true ∧ 56 < Tryz.prog.types.size := ⟨by kernel_rfl, of_decide_eq_true (by kernel_rfl)⟩
set_option maxRecDepth 100000 in
theorem lifted10 (os : Os) (started : os.Started) (H : Type) (enc : TypeId × Value → H) :
    ReturnsInHanded {} Tryz.checked os 10 .any (Rows.handExplainsSpec.pre6 enc Tryz.prog Tryz.f10 Rows.handExplainsRow.domain false) (Rows.handExplainsSpec.post enc Tryz.prog Tryz.f10 false true false false) := by
  refine returnsInHanded_of_change (C := Tryz.checked) ownKnob_none started (by kernel_rfl) Tryz.func10
    (ChangeSpec.witness6 (enc := enc) (C := Tryz.checked) false ⟨#[], #[.agg #[.int .i64 0, .int .i64 0, .int .i64 0, .slice none 0 0, .slice none 0 0, .slice none 0 0], .slice none 0 0], []⟩ 8 (by kernel_rfl) (by kernel_rfl) (by kernel_rfl) (by kernel_rfl)) ?_
  intro W base args ds gs before hval0 hW hcnd _
  have hval : ∀ (j : Nat) t v, Tryz.f10.params[j]? = some t → args[j]? = some v → Value.okWide Tryz.prog W .any base t v := hval0
  have hW' := hW
  obtain ⟨p, q, hA0, hV, rfl, hfz, hnd⟩ := hW
  have hA : DataW.TrodAll enc Tryz.prog W 0 (fun _ => true) true Tryz.f10.params.toList args.toList ds p := hA0
  obtain ⟨rfl, rfl⟩ := trodVars_none hV
  have hlt : ∀ x ∈ p, x.block < W.heap.size := fun x hx => hW'.lt x (by simpa using hx)
  have hA1 := hA
  rw [Tryz.params10] at hA hval
  obtain ⟨v0, v1, d0, d1, p0, p1, rfl, rfl, rfl, h0, h1⟩ := trodAll_two hA
  obtain ⟨x, hx⟩ := open26 (hval 0 26 v0 rfl rfl) h0
  obtain ⟨A1, n1, cap1, g1, rfl, hr1⟩ := open56 (hval 1 56 v1 rfl rfl) h1
  simp only [List.append_nil] at hW'
  refine (law10 hx hr1).mono fun e W' ⟨he, hb⟩ => ?_
  subst he
  exact ⟨_, rfl, post_later (pa := p0 ++ p1) (pv := []) hW' (fun _ _ _ => trodAll_mk1 (shut_bool Tryz.underlying4 _))
    (fun sp hsp => stays hb (by rw [Tryz.params10]; simp only [List.forall_mem_cons]; exact ⟨readable26, readable56, fun _ h => by simp at h⟩) hA1 hlt hsp) (fun _ _ => rfl) (by simp) hb (ok_one (by kernel_rfl) rfl (okWide_bool_mk Tryz.underlying4 _))⟩
set_option maxRecDepth 100000
theorem handExplainsF0 : (Rows.handExplainsRow.wf (OpenSpec.ofChange Rows.handExplainsSpec)) = true := by kernel_rfl
theorem handExplainsF3 : (Tryz.f10.params.all (Tryz.prog.readableRec ·)) = true := by kernel_rfl
theorem handExplainsF4 : (namedTie Tryz.prog Rows.handExplainsRow.named Rows.handExplainsSpec.vars) = true := by kernel_rfl
theorem handExplainsF5 : (Rows.handExplainsRow.stops == []) = true := by kernel_rfl
theorem handExplainsF7 : (Rows.handExplainsRow.knobs == []) = true := by kernel_rfl
theorem handExplainsF9 : (Rows.handExplainsRow.inPlace == Tryz.prog.inPlace 10) = true := by kernel_rfl
theorem handExplainsF10 : (Rows.handExplainsRow.unfollowed == Tryz.prog.unfollowed 10) = true := by kernel_rfl
theorem handExplainsF11 : (Rows.handExplainsRow.recurses == Tryz.prog.recurses 10) = true := by kernel_rfl
theorem handExplainsF12 : (Rows.handExplainsRow.named == Tryz.prog.varsNamed 10) = true := by kernel_rfl
theorem handExplainsF13 : (Rows.handExplainsRow.maps == (Tryz.f10.params.toList ++ Rows.handExplainsSpec.plain.varTypes Tryz.prog).any (Tryz.prog.mapsRec ·)) = true := by kernel_rfl
theorem handExplainsF14 : (Rows.handExplainsRow.ifaces == (Tryz.f10.params.toList ++ Rows.handExplainsSpec.plain.varTypes Tryz.prog).any (Tryz.prog.ifacesRec ·)) = true := by kernel_rfl
theorem handExplainsF15 : (Rows.handExplainsRow.mapsOut == Tryz.prog.mapsAmong Tryz.f10.resultTypes.toList) = true := by kernel_rfl
theorem handExplainsF16 : (Rows.handExplainsRow.loops == (Tryz.f10.params.toList ++ Rows.handExplainsSpec.plain.varTypes Tryz.prog).any (Tryz.prog.loopsFrom ·)) = true := by kernel_rfl
theorem handExplainsF17 : (Rows.handExplainsRow.wideKeys == (Tryz.f10.params.toList ++ Rows.handExplainsSpec.plain.varTypes Tryz.prog ++ Tryz.f10.resultTypes.toList).any (Tryz.prog.wideKeysFrom ·)) = true := by kernel_rfl
theorem handExplainsF18 : (Rows.handExplainsSpec.vars.all (Tryz.prog.varReadable ·)) = true := by kernel_rfl
theorem handExplainsF19 : (Tryz.f10.resultTypes.all (fun t => Tryz.prog.readableRec t && decide (t < Tryz.prog.types.size))) = true := by kernel_rfl
theorem handExplainsF20 : (Rows.handExplainsRow.ifacesOut == Tryz.f10.resultTypes.toList.any (Tryz.prog.ifacesRec ·)) = true := by kernel_rfl
theorem handExplainsF21 : (Rows.handExplainsRow.loopsOut == Tryz.f10.resultTypes.toList.any (Tryz.prog.loopsFrom ·)) = true := by kernel_rfl
theorem handExplainsF22 : (Rows.handExplainsRow.plainKeys == Tryz.prog.plainKeys) = true := eqT factPlain (by kernel_rfl)
theorem handExplainsF23 : (Rows.handExplainsRow.shortTexts.isNone) = true := by kernel_rfl
theorem handExplainsF26 : (Rows.handExplainsRow.lifted == Tryz.prog.liftsFinal) = true := by rw [factLifts]; kernel_rfl
theorem handExplainsF27 : (Tryz.prog.make == some Rows.handExplainsRow.make) = true := factMake
theorem handExplainsF28 : (Rows.handExplainsRow.kinds == (if Rows.handExplainsRow.domain.isEmpty then [] else Tryz.f10.params.toList.map fun t => match Tryz.prog.underlying t with | some (.int k) => some k | _ => none)) = true := by kernel_rfl
theorem handExplainsF29 : (Rows.handExplainsRow.pinned == Rows.handExplainsRow.pinnedBy) = true := by kernel_rfl
theorem handExplainsF30 : (Rows.handExplainsRow.veiled == (Tryz.f10.params.toList ++ Rows.handExplainsSpec.plain.varTypes Tryz.prog ++ Tryz.f10.resultTypes.toList).any (Tryz.prog.veiledRec ·)) = true := by kernel_rfl
theorem handExplainsF31 : (Rows.handExplainsRow.veiledFits Tryz.prog Tryz.f10.params.toList (Tryz.f10.params.toList ++ Rows.handExplainsSpec.plain.varTypes Tryz.prog ++ Tryz.f10.resultTypes.toList)) = true := by kernel_rfl
theorem handExplainsJoined : joinedFacts Tryz.prog 10 Tryz.f10 Rows.handExplainsSpec Rows.handExplainsRow = true := (andT (andT (andT (andT (andT (andT (andT (andT (andT (andT (andT (andT (andT (andT (andT (andT (andT (andT (andT (andT (andT (andT (andT (andT (andT (andT (andT (andT (andT (andT (andT handExplainsF0 fact1) fact2) handExplainsF3) handExplainsF4) handExplainsF5) fact6) handExplainsF7) fact8) handExplainsF9) handExplainsF10) handExplainsF11) handExplainsF12) handExplainsF13) handExplainsF14) handExplainsF15) handExplainsF16) handExplainsF17) handExplainsF18) handExplainsF19) handExplainsF20) handExplainsF21) handExplainsF22) handExplainsF23) fact24) fact25) handExplainsF26) handExplainsF27) handExplainsF28) handExplainsF29) handExplainsF30) handExplainsF31)
theorem handExplains_holds : Rows.HandExplainsSaid :=
  OpenClaim.holds_of_wide 10 Tryz.f10 rfl rfl rfl rfl rfl rfl rfl ⟨rfl, rfl, rfl, rfl, rfl⟩ rfl rfl rfl rfl rfl (by kernel_rfl) Tryz.func10 handExplainsJoined
    (of_decide_eq_true (by kernel_rfl)) (by unfold Func.isWrapper; rw [if_neg (of_decide_eq_false (by kernel_rfl))]; exact ⟨rfl, rfl⟩)
    (fun os started H enc _ => lifted10 os started H enc)
#print axioms handExplains_holds
end Go.Proofs.YtkhjmedfhobebaaGreat
