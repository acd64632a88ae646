/- HandAllowed: for every argument the law returns true, and each argument reads as before. No condition. -/
import Derived.Test.YtkhjmedfhobebaaGreatFacts
import Derived.Test.YtkhjmedfhobebaaGreatLawM
import Derived.Test.YtkhjmedfhobebaaGreatOpen
import Derived.ProofKit
import Derived.OpenShut
namespace Go.Proofs.YtkhjmedfhobebaaGreat
open Go.RowKit HandSpec Go.ChangeShapes Go.WideShapes Go.ChangeAt
theorem ownKnob_none : ownKnob Tryz.prog.godebug = none := by kernel_rfl
theorem readable5 : Tryz.prog.readableRec 5 = true ∧ 5 < Tryz.prog.types.size := ⟨by kernel_rfl, of_decide_eq_true (by kernel_rfl)⟩
theorem readable99 : Tryz.prog.readableRec 99 = true ∧ 99 < Tryz.prog.types.size := ⟨by kernel_rfl, of_decide_eq_true (by kernel_rfl)⟩
set_option maxRecDepth 100000 in
theorem lifted9 (os : Os) (started : os.Started) (H : Type) (enc : TypeId × Value → H) :
    ReturnsInHanded {} Tryz.checked os 9 .any (Rows.handAllowedSpec.pre6 enc Tryz.prog Tryz.f9 Rows.handAllowedRow.domain false) (Rows.handAllowedSpec.post enc Tryz.prog Tryz.f9 false true false false) := by
  refine returnsInHanded_of_change (C := Tryz.checked) ownKnob_none started (by kernel_rfl) Tryz.func9
    (ChangeSpec.witness6 (enc := enc) (C := Tryz.checked) false ⟨#[], #[.slice none 0 0, .int .u8 0, .int .u8 0, .int .u8 0], []⟩ 8 (by kernel_rfl) (by kernel_rfl) (by kernel_rfl) (by kernel_rfl)) ?_
  intro W base args ds gs before hval0 hW hcnd _
  have hval : ∀ (j : Nat) t v, Tryz.f9.params[j]? = some t → args[j]? = some v → Value.okWide Tryz.prog W .any base t v := hval0
  have hW' := hW
  obtain ⟨p, q, hA0, hV, rfl, hfz, hnd⟩ := hW
  have hA : DataW.TrodAll enc Tryz.prog W 0 (fun _ => true) true Tryz.f9.params.toList args.toList ds p := hA0
  obtain ⟨rfl, rfl⟩ := trodVars_none hV
  have hlt : ∀ x ∈ p, x.block < W.heap.size := fun x hx => hW'.lt x (by simpa using hx)
  have hA1 := hA
  rw [Tryz.params9] at hA hval
  obtain ⟨v0, v1, v2, v3, d0, d1, d2, d3, p0, p1, p2, p3, rfl, rfl, rfl, h0, h1, h2, h3⟩ := trodAll_four hA
  obtain ⟨A0, n0, cap0, rfl, hb0⟩ := open99 (hval 0 99 v0 rfl rfl) h0
  obtain ⟨k1, rfl, -, -, hk1⟩ := open_int Tryz.underlying5 (hval 1 5 v1 rfl rfl) h1
  obtain ⟨j1, rfl, hj1⟩ := u8_nat hk1
  obtain ⟨k2, rfl, -, -, hk2⟩ := open_int Tryz.underlying5 (hval 2 5 v2 rfl rfl) h2
  obtain ⟨j2, rfl, hj2⟩ := u8_nat hk2
  obtain ⟨k3, rfl, -, -, hk3⟩ := open_int Tryz.underlying5 (hval 3 5 v3 rfl rfl) h3
  obtain ⟨j3, rfl, hj3⟩ := u8_nat hk3
  simp only [List.append_nil] at hW'
  refine (law9 hb0 hj1 hj2 hj3).mono fun e W' ⟨he, hb⟩ => ?_
  subst he
  exact ⟨_, rfl, post_later (pa := p0 ++ p1 ++ p2 ++ p3) (pv := []) hW' (fun _ _ _ => trodAll_mk1 (shut_bool Tryz.underlying4 _))
    (fun sp hsp => stays hb (by rw [Tryz.params9]; simp only [List.forall_mem_cons]; exact ⟨readable99, readable5, readable5, readable5, fun _ h => by simp at h⟩) hA1 hlt hsp) (fun _ _ => rfl) (by simp) hb (ok_one (by kernel_rfl) rfl (okWide_bool_mk Tryz.underlying4 _))⟩
set_option maxRecDepth 100000
theorem handAllowedF0 : (Rows.handAllowedRow.wf (OpenSpec.ofChange Rows.handAllowedSpec)) = true := by kernel_rfl
theorem handAllowedF3 : (Tryz.f9.params.all (Tryz.prog.readableRec ·)) = true := by kernel_rfl
theorem handAllowedF4 : (namedTie Tryz.prog Rows.handAllowedRow.named Rows.handAllowedSpec.vars) = true := by kernel_rfl
theorem handAllowedF5 : (Rows.handAllowedRow.stops == []) = true := by kernel_rfl
theorem handAllowedF7 : (Rows.handAllowedRow.knobs == []) = true := by kernel_rfl
theorem handAllowedF9 : (Rows.handAllowedRow.inPlace == Tryz.prog.inPlace 9) = true := by kernel_rfl
theorem handAllowedF10 : (Rows.handAllowedRow.unfollowed == Tryz.prog.unfollowed 9) = true := by kernel_rfl
theorem handAllowedF11 : (Rows.handAllowedRow.recurses == Tryz.prog.recurses 9) = true := by kernel_rfl
theorem handAllowedF12 : (Rows.handAllowedRow.named == Tryz.prog.varsNamed 9) = true := by kernel_rfl
theorem handAllowedF13 : (Rows.handAllowedRow.maps == (Tryz.f9.params.toList ++ Rows.handAllowedSpec.plain.varTypes Tryz.prog).any (Tryz.prog.mapsRec ·)) = true := by kernel_rfl
theorem handAllowedF14 : (Rows.handAllowedRow.ifaces == (Tryz.f9.params.toList ++ Rows.handAllowedSpec.plain.varTypes Tryz.prog).any (Tryz.prog.ifacesRec ·)) = true := by kernel_rfl
theorem handAllowedF15 : (Rows.handAllowedRow.mapsOut == Tryz.prog.mapsAmong Tryz.f9.resultTypes.toList) = true := by kernel_rfl
theorem handAllowedF16 : (Rows.handAllowedRow.loops == (Tryz.f9.params.toList ++ Rows.handAllowedSpec.plain.varTypes Tryz.prog).any (Tryz.prog.loopsFrom ·)) = true := by kernel_rfl
theorem handAllowedF17 : (Rows.handAllowedRow.wideKeys == (Tryz.f9.params.toList ++ Rows.handAllowedSpec.plain.varTypes Tryz.prog ++ Tryz.f9.resultTypes.toList).any (Tryz.prog.wideKeysFrom ·)) = true := by kernel_rfl
theorem handAllowedF18 : (Rows.handAllowedSpec.vars.all (Tryz.prog.varReadable ·)) = true := by kernel_rfl
theorem handAllowedF19 : (Tryz.f9.resultTypes.all (fun t => Tryz.prog.readableRec t && decide (t < Tryz.prog.types.size))) = true := by kernel_rfl
theorem handAllowedF20 : (Rows.handAllowedRow.ifacesOut == Tryz.f9.resultTypes.toList.any (Tryz.prog.ifacesRec ·)) = true := by kernel_rfl
theorem handAllowedF21 : (Rows.handAllowedRow.loopsOut == Tryz.f9.resultTypes.toList.any (Tryz.prog.loopsFrom ·)) = true := by kernel_rfl
theorem handAllowedF22 : (Rows.handAllowedRow.plainKeys == Tryz.prog.plainKeys) = true := eqT factPlain (by kernel_rfl)
theorem handAllowedF23 : (Rows.handAllowedRow.shortTexts.isNone) = true := by kernel_rfl
theorem handAllowedF26 : (Rows.handAllowedRow.lifted == Tryz.prog.liftsFinal) = true := by rw [factLifts]; kernel_rfl
theorem handAllowedF27 : (Tryz.prog.make == some Rows.handAllowedRow.make) = true := factMake
theorem handAllowedF28 : (Rows.handAllowedRow.kinds == (if Rows.handAllowedRow.domain.isEmpty then [] else Tryz.f9.params.toList.map fun t => match Tryz.prog.underlying t with | some (.int k) => some k | _ => none)) = true := by kernel_rfl
theorem handAllowedF29 : (Rows.handAllowedRow.pinned == Rows.handAllowedRow.pinnedBy) = true := by kernel_rfl
theorem handAllowedF30 : (Rows.handAllowedRow.veiled == (Tryz.f9.params.toList ++ Rows.handAllowedSpec.plain.varTypes Tryz.prog ++ Tryz.f9.resultTypes.toList).any (Tryz.prog.veiledRec ·)) = true := by kernel_rfl
theorem handAllowedF31 : (Rows.handAllowedRow.veiledFits Tryz.prog Tryz.f9.params.toList (Tryz.f9.params.toList ++ Rows.handAllowedSpec.plain.varTypes Tryz.prog ++ Tryz.f9.resultTypes.toList)) = true := by kernel_rfl
theorem handAllowedJoined : joinedFacts Tryz.prog 9 Tryz.f9 Rows.handAllowedSpec Rows.handAllowedRow = true := (andT (andT (andT (andT (andT (andT (andT (andT (andT (andT (andT (andT (andT (andT (andT (andT (andT (andT (andT (andT (andT (andT (andT (andT (andT (andT (andT (andT (andT (andT (andT handAllowedF0 fact1) fact2) handAllowedF3) handAllowedF4) handAllowedF5) fact6) handAllowedF7) fact8) handAllowedF9) handAllowedF10) handAllowedF11) handAllowedF12) handAllowedF13) handAllowedF14) handAllowedF15) handAllowedF16) handAllowedF17) handAllowedF18) handAllowedF19) handAllowedF20) handAllowedF21) handAllowedF22) handAllowedF23) fact24) fact25) handAllowedF26) handAllowedF27) handAllowedF28) handAllowedF29) handAllowedF30) handAllowedF31)
theorem handAllowed_holds : Rows.HandAllowedSaid :=
  OpenClaim.holds_of_wide 9 Tryz.f9 rfl rfl rfl rfl rfl rfl rfl ⟨rfl, rfl, rfl, rfl, rfl⟩ rfl rfl rfl rfl rfl (by kernel_rfl) Tryz.func9 handAllowedJoined
    (of_decide_eq_true (by kernel_rfl)) (by unfold Func.isWrapper; rw [if_neg (of_decide_eq_false (by kernel_rfl))]; exact ⟨rfl, rfl⟩)
    (fun os started H enc _ => lifted9 os started H enc)
#print axioms handAllowed_holds
end Go.Proofs.YtkhjmedfhobebaaGreat
