/- HandShort: for every argument the law returns true, and each argument reads as before. No condition. -/
import Derived.Test.YtkhjmedfhobebaaGreatFacts
import Derived.Test.YtkhjmedfhobebaaGreatLawS
import Derived.Test.YtkhjmedfhobebaaGreatOpen
import Derived.ProofKit
import Derived.OpenShut
namespace Go.Proofs.YtkhjmedfhobebaaGreat
open Go.RowKit HandSpec Go.ChangeShapes Go.WideShapes Go.ChangeAt
theorem ownKnob_none : ownKnob Tryz.prog.godebug = none := by kernel_rfl
theorem readable3 : Tryz.prog.readableRec 3 = true ∧ 3 < Tryz.prog.types.size := ⟨by kernel_rfl, of_decide_eq_true (by kernel_rfl)⟩
theorem readable26 : Tryz.prog.readableRec 26 = true ∧ 26 < Tryz.prog.types.size := ⟨by kernel_rfl, of_decide_eq_true (by kernel_rfl)⟩
set_option maxRecDepth 100000 in
theorem lifted6 (os : Os) (started : os.Started) (H : Type) (enc : TypeId × Value → H) :
    ReturnsInHanded {} Tryz.checked os 6 .any (Rows.handShortSpec.pre6 enc Tryz.prog Tryz.f6 Rows.handShortRow.domain false) (Rows.handShortSpec.post enc Tryz.prog Tryz.f6 false true false false) := by
  refine returnsInHanded_of_change (C := Tryz.checked) ownKnob_none started (by kernel_rfl) Tryz.func6
    (ChangeSpec.witness6 (enc := enc) (C := Tryz.checked) false ⟨#[], #[.agg #[.int .i64 0, .int .i64 0, .int .i64 0, .slice none 0 0, .slice none 0 0, .slice none 0 0], .int .i64 0], []⟩ 8 (by kernel_rfl) (by kernel_rfl) (by kernel_rfl) (by kernel_rfl)) ?_
  intro W base args ds gs before hval0 hW hcnd _
  have hval : ∀ (j : Nat) t v, Tryz.f6.params[j]? = some t → args[j]? = some v → Value.okWide Tryz.prog W .any base t v := hval0
  have hW' := hW
  obtain ⟨p, q, hA0, hV, rfl, hfz, hnd⟩ := hW
  have hA : DataW.TrodAll enc Tryz.prog W 0 (fun _ => true) true Tryz.f6.params.toList args.toList ds p := hA0
  obtain ⟨rfl, rfl⟩ := trodVars_none hV
  have hlt : ∀ x ∈ p, x.block < W.heap.size := fun x hx => hW'.lt x (by simpa using hx)
  have hA1 := hA
  rw [Tryz.params6] at hA hval
  obtain ⟨v0, v1, d0, d1, p0, p1, rfl, rfl, rfl, h0, h1⟩ := trodAll_two hA
  obtain ⟨x, hx⟩ := open26 (hval 0 26 v0 rfl rfl) h0
  obtain ⟨k1, rfl, -, -, -⟩ := open_int Tryz.underlying3 (hval 1 3 v1 rfl rfl) h1
  simp only [List.append_nil] at hW'
  refine (law6 hx k1).mono fun e W' ⟨he, hb⟩ => ?_
  subst he
  exact ⟨_, rfl, post_later (pa := p0 ++ p1) (pv := []) hW' (fun _ _ _ => trodAll_mk1 (shut_bool Tryz.underlying4 _))
    (fun sp hsp => stays hb (by rw [Tryz.params6]; simp only [List.forall_mem_cons]; exact ⟨readable26, readable3, fun _ h => by simp at h⟩) hA1 hlt hsp) (fun _ _ => rfl) (by simp) hb (ok_one (by kernel_rfl) rfl (okWide_bool_mk Tryz.underlying4 _))⟩
set_option maxRecDepth 100000
theorem handShortF0 : (Rows.handShortRow.wf (OpenSpec.ofChange Rows.handShortSpec)) = true := by kernel_rfl
theorem handShortF3 : (Tryz.f6.params.all (Tryz.prog.readableRec ·)) = true := by kernel_rfl
theorem handShortF4 : (namedTie Tryz.prog Rows.handShortRow.named Rows.handShortSpec.vars) = true := by kernel_rfl
theorem handShortF5 : (Rows.handShortRow.stops == []) = true := by kernel_rfl
theorem handShortF7 : (Rows.handShortRow.knobs == []) = true := by kernel_rfl
theorem handShortF9 : (Rows.handShortRow.inPlace == Tryz.prog.inPlace 6) = true := by kernel_rfl
theorem handShortF10 : (Rows.handShortRow.unfollowed == Tryz.prog.unfollowed 6) = true := by kernel_rfl
theorem handShortF11 : (Rows.handShortRow.recurses == Tryz.prog.recurses 6) = true := by kernel_rfl
theorem handShortF12 : (Rows.handShortRow.named == Tryz.prog.varsNamed 6) = true := by kernel_rfl
theorem handShortF13 : (Rows.handShortRow.maps == (Tryz.f6.params.toList ++ Rows.handShortSpec.plain.varTypes Tryz.prog).any (Tryz.prog.mapsRec ·)) = true := by kernel_rfl
theorem handShortF14 : (Rows.handShortRow.ifaces == (Tryz.f6.params.toList ++ Rows.handShortSpec.plain.varTypes Tryz.prog).any (Tryz.prog.ifacesRec ·)) = true := by kernel_rfl
theorem handShortF15 : (Rows.handShortRow.mapsOut == Tryz.prog.mapsAmong Tryz.f6.resultTypes.toList) = true := by kernel_rfl
theorem handShortF16 : (Rows.handShortRow.loops == (Tryz.f6.params.toList ++ Rows.handShortSpec.plain.varTypes Tryz.prog).any (Tryz.prog.loopsFrom ·)) = true := by kernel_rfl
theorem handShortF17 : (Rows.handShortRow.wideKeys == (Tryz.f6.params.toList ++ Rows.handShortSpec.plain.varTypes Tryz.prog ++ Tryz.f6.resultTypes.toList).any (Tryz.prog.wideKeysFrom ·)) = true := by kernel_rfl
theorem handShortF18 : (Rows.handShortSpec.vars.all (Tryz.prog.varReadable ·)) = true := by kernel_rfl
theorem handShortF19 : (Tryz.f6.resultTypes.all (fun t => Tryz.prog.readableRec t && decide (t < Tryz.prog.types.size))) = true := by kernel_rfl
theorem handShortF20 : (Rows.handShortRow.ifacesOut == Tryz.f6.resultTypes.toList.any (Tryz.prog.ifacesRec ·)) = true := by kernel_rfl
theorem handShortF21 : (Rows.handShortRow.loopsOut == Tryz.f6.resultTypes.toList.any (Tryz.prog.loopsFrom ·)) = true := by kernel_rfl
theorem handShortF22 : (Rows.handShortRow.plainKeys == Tryz.prog.plainKeys) = true := eqT factPlain (by kernel_rfl)
theorem handShortF23 : (Rows.handShortRow.shortTexts.isNone) = true := by kernel_rfl
theorem handShortF26 : (Rows.handShortRow.lifted == Tryz.prog.liftsFinal) = true := by rw [factLifts]; kernel_rfl
theorem handShortF27 : (Tryz.prog.make == some Rows.handShortRow.make) = true := factMake
theorem handShortF28 : (Rows.handShortRow.kinds == (if Rows.handShortRow.domain.isEmpty then [] else Tryz.f6.params.toList.map fun t => match Tryz.prog.underlying t with | some (.int k) => some k | _ => none)) = true := by kernel_rfl
theorem handShortF29 : (Rows.handShortRow.pinned == Rows.handShortRow.pinnedBy) = true := by kernel_rfl
theorem handShortF30 : (Rows.handShortRow.veiled == (Tryz.f6.params.toList ++ Rows.handShortSpec.plain.varTypes Tryz.prog ++ Tryz.f6.resultTypes.toList).any (Tryz.prog.veiledRec ·)) = true := by kernel_rfl
theorem handShortF31 : (Rows.handShortRow.veiledFits Tryz.prog Tryz.f6.params.toList (Tryz.f6.params.toList ++ Rows.handShortSpec.plain.varTypes Tryz.prog ++ Tryz.f6.resultTypes.toList)) = true := by kernel_rfl
theorem handShortJoined : joinedFacts Tryz.prog 6 Tryz.f6 Rows.handShortSpec Rows.handShortRow = true := (andT (andT (andT (andT (andT (andT (andT (andT (andT (andT (andT (andT (andT (andT (andT (andT (andT (andT (andT (andT (andT (andT (andT (andT (andT (andT (andT (andT (andT (andT (andT handShortF0 fact1) fact2) handShortF3) handShortF4) handShortF5) fact6) handShortF7) fact8) handShortF9) handShortF10) handShortF11) handShortF12) handShortF13) handShortF14) handShortF15) handShortF16) handShortF17) handShortF18) handShortF19) handShortF20) handShortF21) handShortF22) handShortF23) fact24) fact25) handShortF26) handShortF27) handShortF28) handShortF29) handShortF30) handShortF31)
theorem handShort_holds : Rows.HandShortSaid :=
  OpenClaim.holds_of_wide 6 Tryz.f6 rfl rfl rfl rfl rfl rfl rfl ⟨rfl, rfl, rfl, rfl, rfl⟩ rfl rfl rfl rfl rfl (by kernel_rfl) Tryz.func6 handShortJoined
    (of_decide_eq_true (by kernel_rfl)) (by unfold Func.isWrapper; rw [if_neg (of_decide_eq_false (by kernel_rfl))]; exact ⟨rfl, rfl⟩)
    (fun os started H enc _ => lifted6 os started H enc)
#print axioms handShort_holds
end Go.Proofs.YtkhjmedfhobebaaGreat
