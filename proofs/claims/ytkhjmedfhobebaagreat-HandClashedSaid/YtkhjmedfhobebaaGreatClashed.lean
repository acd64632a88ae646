/- HandClashed: for every argument the law returns true, and each argument reads as before. No condition. -/
import Derived.Test.YtkhjmedfhobebaaGreatFacts
import Derived.Test.YtkhjmedfhobebaaGreatLawC7
import Derived.Test.YtkhjmedfhobebaaGreatOpen
import Derived.ProofKit
import Derived.OpenShut
namespace Go.Proofs.YtkhjmedfhobebaaGreat
open Go.RowKit HandSpec Go.ChangeShapes Go.WideShapes Go.ChangeAt
theorem ownKnob_none : ownKnob Tryz.prog.godebug = none := by kernel_rfl
theorem readable5 : Tryz.prog.readableRec 5 = true ∧ 5 < Tryz.prog.types.size := ⟨by kernel_rfl, of_decide_eq_true (by kernel_rfl)⟩
theorem readable99 : Tryz.prog.readableRec 99 = true ∧ 99 < Tryz.prog.types.size := ⟨by kernel_rfl, of_decide_eq_true (by kernel_rfl)⟩
set_option maxRecDepth 100000 in
theorem lifted13 (os : Os) (started : os.Started) (H : Type) (enc : TypeId × Value → H) :
    ReturnsInHanded {} Tryz.checked os 13 .any (Rows.handClashedSpec.pre6 enc Tryz.prog Tryz.f13 Rows.handClashedRow.domain false) (Rows.handClashedSpec.post enc Tryz.prog Tryz.f13 false true false false) := by
  refine returnsInHanded_of_change (C := Tryz.checked) ownKnob_none started (by kernel_rfl) Tryz.func13
    (ChangeSpec.witness6 (enc := enc) (C := Tryz.checked) false ⟨#[], #[.slice none 0 0, .int .u8 0, .int .u8 0], []⟩ 8 (by kernel_rfl) (by kernel_rfl) (by kernel_rfl) (by kernel_rfl)) ?_
  intro W base args ds gs before hval0 hW hcnd _
  have hval : ∀ (j : Nat) t v, Tryz.f13.params[j]? = some t → args[j]? = some v → Value.okWide Tryz.prog W .any base t v := hval0
  have hW' := hW
  obtain ⟨p, q, hA0, hV, rfl, hfz, hnd⟩ := hW
  have hA : DataW.TrodAll enc Tryz.prog W 0 (fun _ => true) true Tryz.f13.params.toList args.toList ds p := hA0
  obtain ⟨rfl, rfl⟩ := trodVars_none hV
  have hlt : ∀ x ∈ p, x.block < W.heap.size := fun x hx => hW'.lt x (by simpa using hx)
  have hA1 := hA
  rw [Tryz.params13] at hA hval
  obtain ⟨v0, v1, v2, d0, d1, d2, p0, p1, p2, rfl, rfl, rfl, h0, h1, h2⟩ := trodAll_three hA
  obtain ⟨A0, n0, cap0, rfl, hb0⟩ := open99 (hval 0 99 v0 rfl rfl) h0
  obtain ⟨k1, rfl, -, -, hk1⟩ := open_int Tryz.underlying5 (hval 1 5 v1 rfl rfl) h1
  obtain ⟨j1, rfl, hj1⟩ := u8_nat hk1
  obtain ⟨k2, rfl, -, -, hk2⟩ := open_int Tryz.underlying5 (hval 2 5 v2 rfl rfl) h2
  obtain ⟨j2, rfl, hj2⟩ := u8_nat hk2
  simp only [List.append_nil] at hW'
  refine (law13 hb0 hj1 hj2).mono fun e W' ⟨he, hb⟩ => ?_
  subst he
  exact ⟨_, rfl, post_later (pa := p0 ++ p1 ++ p2) (pv := []) hW' (fun _ _ _ => trodAll_mk1 (shut_bool Tryz.underlying4 _))
    (fun sp hsp => stays hb (by rw [Tryz.params13]; simp only [List.forall_mem_cons]; exact ⟨readable99, readable5, readable5, fun _ h => by simp at h⟩) hA1 hlt hsp) (fun _ _ => rfl) (by simp) hb (ok_one (by kernel_rfl) rfl (okWide_bool_mk Tryz.underlying4 _))⟩
set_option maxRecDepth 100000
theorem handClashedF0 : (Rows.handClashedRow.wf (OpenSpec.ofChange Rows.handClashedSpec)) = true := by kernel_rfl
theorem handClashedF3 : (Tryz.f13.params.all (Tryz.prog.readableRec ·)) = true := by kernel_rfl
theorem handClashedF4 : (namedTie Tryz.prog Rows.handClashedRow.named Rows.handClashedSpec.vars) = true := by kernel_rfl
theorem handClashedF5 : (Rows.handClashedRow.stops == []) = true := by kernel_rfl
theorem handClashedF7 : (Rows.handClashedRow.knobs == []) = true := by kernel_rfl
theorem handClashedF9 : (Rows.handClashedRow.inPlace == Tryz.prog.inPlace 13) = true := by kernel_rfl
theorem handClashedF10 : (Rows.handClashedRow.unfollowed == Tryz.prog.unfollowed 13) = true := by kernel_rfl
theorem handClashedF11 : (Rows.handClashedRow.recurses == Tryz.prog.recurses 13) = true := by kernel_rfl
theorem handClashedF12 : (Rows.handClashedRow.named == Tryz.prog.varsNamed 13) = true := by kernel_rfl
theorem handClashedF13 : (Rows.handClashedRow.maps == (Tryz.f13.params.toList ++ Rows.handClashedSpec.plain.varTypes Tryz.prog).any (Tryz.prog.mapsRec ·)) = true := by kernel_rfl
theorem handClashedF14 : (Rows.handClashedRow.ifaces == (Tryz.f13.params.toList ++ Rows.handClashedSpec.plain.varTypes Tryz.prog).any (Tryz.prog.ifacesRec ·)) = true := by kernel_rfl
theorem handClashedF15 : (Rows.handClashedRow.mapsOut == Tryz.prog.mapsAmong Tryz.f13.resultTypes.toList) = true := by kernel_rfl
theorem handClashedF16 : (Rows.handClashedRow.loops == (Tryz.f13.params.toList ++ Rows.handClashedSpec.plain.varTypes Tryz.prog).any (Tryz.prog.loopsFrom ·)) = true := by kernel_rfl
theorem handClashedF17 : (Rows.handClashedRow.wideKeys == (Tryz.f13.params.toList ++ Rows.handClashedSpec.plain.varTypes Tryz.prog ++ Tryz.f13.resultTypes.toList).any (Tryz.prog.wideKeysFrom ·)) = true := by kernel_rfl
theorem handClashedF18 : (Rows.handClashedSpec.vars.all (Tryz.prog.varReadable ·)) = true := by kernel_rfl
theorem handClashedF19 : (Tryz.f13.resultTypes.all (fun t => Tryz.prog.readableRec t && decide (t < Tryz.prog.types.size))) = true := by kernel_rfl
theorem handClashedF20 : (Rows.handClashedRow.ifacesOut == Tryz.f13.resultTypes.toList.any (Tryz.prog.ifacesRec ·)) = true := by kernel_rfl
theorem handClashedF21 : (Rows.handClashedRow.loopsOut == Tryz.f13.resultTypes.toList.any (Tryz.prog.loopsFrom ·)) = true := by kernel_rfl
theorem handClashedF22 : (Rows.handClashedRow.plainKeys == Tryz.prog.plainKeys) = true := eqT factPlain (by kernel_rfl)
theorem handClashedF23 : (Rows.handClashedRow.shortTexts.isNone) = true := by kernel_rfl
theorem handClashedF26 : (Rows.handClashedRow.lifted == Tryz.prog.liftsFinal) = true := by rw [factLifts]; kernel_rfl
theorem handClashedF27 : (Tryz.prog.make == some Rows.handClashedRow.make) = true := factMake
theorem handClashedF28 : (Rows.handClashedRow.kinds == (if Rows.handClashedRow.domain.isEmpty then [] else Tryz.f13.params.toList.map fun t => match Tryz.prog.underlying t with | some (.int k) => some k | _ => none)) = true := by kernel_rfl
theorem handClashedF29 : (Rows.handClashedRow.pinned == Rows.handClashedRow.pinnedBy) = true := by kernel_rfl
theorem handClashedF30 : (Rows.handClashedRow.veiled == (Tryz.f13.params.toList ++ Rows.handClashedSpec.plain.varTypes Tryz.prog ++ Tryz.f13.resultTypes.toList).any (Tryz.prog.veiledRec ·)) = true := by kernel_rfl
theorem handClashedF31 : (Rows.handClashedRow.veiledFits Tryz.prog Tryz.f13.params.toList (Tryz.f13.params.toList ++ Rows.handClashedSpec.plain.varTypes Tryz.prog ++ Tryz.f13.resultTypes.toList)) = true := by kernel_rfl
theorem handClashedJoined : joinedFacts Tryz.prog 13 Tryz.f13 Rows.handClashedSpec Rows.handClashedRow = true := (andT (andT (andT (andT (andT (andT (andT (andT (andT (andT (andT (andT (andT (andT (andT (andT (andT (andT (andT (andT (andT (andT (andT (andT (andT (andT (andT (andT (andT (andT (andT handClashedF0 fact1) fact2) handClashedF3) handClashedF4) handClashedF5) fact6) handClashedF7) fact8) handClashedF9) handClashedF10) handClashedF11) handClashedF12) handClashedF13) handClashedF14) handClashedF15) handClashedF16) handClashedF17) handClashedF18) handClashedF19) handClashedF20) handClashedF21) handClashedF22) handClashedF23) fact24) fact25) handClashedF26) handClashedF27) handClashedF28) handClashedF29) handClashedF30) handClashedF31)
theorem handClashed_holds : Rows.HandClashedSaid :=
  OpenClaim.holds_of_wide 13 Tryz.f13 rfl rfl rfl rfl rfl rfl rfl ⟨rfl, rfl, rfl, rfl, rfl⟩ rfl rfl rfl rfl rfl (by kernel_rfl) Tryz.func13 handClashedJoined
    (of_decide_eq_true (by kernel_rfl)) (by unfold Func.isWrapper; rw [if_neg (of_decide_eq_false (by kernel_rfl))]; exact ⟨rfl, rfl⟩)
    (fun os started H enc _ => lifted13 os started H enc)
#print axioms handClashed_holds
end Go.Proofs.YtkhjmedfhobebaaGreat
