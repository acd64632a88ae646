/- HandProves: for every watch, every hand and every list of stretches the law returns true, and each argument reads as before. No condition. -/
import Derived.Test.YtkhjmedfhobebaaGreatFacts
import Derived.Test.YtkhjmedfhobebaaGreatLawG
import Derived.Test.YtkhjmedfhobebaaGreatOpen
import Derived.ProofKit
import Derived.OpenShut
namespace Go.Proofs.YtkhjmedfhobebaaGreat
open Go.RowKit HandSpec Go.ChangeShapes Go.WideShapes Go.ChangeAt
theorem ownKnob_none : ownKnob Tryz.prog.godebug = none := by kernel_rfl
theorem readable26 : Tryz.prog.readableRec 26 = true ∧ 26 < Tryz.prog.types.size := ⟨by kernel_rfl, of_decide_eq_true (by kernel_rfl)⟩
theorem readable3 : Tryz.prog.readableRec 3 = true ∧ 3 < Tryz.prog.types.size := ⟨by kernel_rfl, of_decide_eq_true (by kernel_rfl)⟩
theorem readable45 : Tryz.prog.readableRec 45 = true ∧ 45 < Tryz.prog.types.size := ⟨by kernel_rfl, of_decide_eq_true (by kernel_rfl)⟩
set_option maxRecDepth 100000 in
theorem lifted5 (os : Os) (started : os.Started) (H : Type) (enc : TypeId × Value → H) :
    ReturnsInHanded {} Tryz.checked os 5 .any (Rows.handProvesSpec.pre6 enc Tryz.prog Tryz.f5 Rows.handProvesRow.domain false) (Rows.handProvesSpec.post enc Tryz.prog Tryz.f5 false true false false) := by
  refine returnsInHanded_of_change (C := Tryz.checked) ownKnob_none started (by kernel_rfl) Tryz.func5
    (ChangeSpec.witness6 (enc := enc) (C := Tryz.checked) false ⟨#[], #[.agg #[.int .i64 0, .int .i64 0, .int .i64 0, .slice none 0 0, .slice none 0 0, .slice none 0 0], .int .i64 0, .slice none 0 0], []⟩ 8 (by kernel_rfl) (by kernel_rfl) (by kernel_rfl) (by kernel_rfl)) ?_
  intro W base args ds gs before hval0 hW hcnd _
  have hval : ∀ (j : Nat) t v, Tryz.f5.params[j]? = some t → args[j]? = some v → Value.okWide Tryz.prog W .any base t v := hval0
  have hW' := hW
  obtain ⟨p, q, hA0, hV, rfl, hfz, hnd⟩ := hW
  have hA : DataW.TrodAll enc Tryz.prog W 0 (fun _ => true) true Tryz.f5.params.toList args.toList ds p := hA0
  obtain ⟨rfl, rfl⟩ := trodVars_none hV
  have hlt : ∀ x ∈ p, x.block < W.heap.size := fun x hx => hW'.lt x (by simpa using hx)
  have hA1 := hA
  rw [Tryz.params5] at hA hval
  obtain ⟨v0, v1, v2, d0, d1, d2, p0, p1, p2, rfl, rfl, rfl, h0, h1, h2⟩ := trodAll_three hA
  obtain ⟨x, hx⟩ := open26 (hval 0 26 v0 rfl rfl) h0
  obtain ⟨k, rfl, -, -, -⟩ := open_int Tryz.underlying3 (hval 1 3 v1 rfl rfl) h1
  obtain ⟨A, n, cap, g, rfl, hr⟩ := open45 (hval 2 45 v2 rfl rfl) h2
  simp only [List.append_nil] at hW'
  refine (law5 hx k hr).mono fun e W' ⟨he, hb⟩ => ?_
  subst he
  exact ⟨_, rfl, post_later (pa := p0 ++ p1 ++ p2) (pv := []) hW' (fun _ _ _ => trodAll_mk1 (shut_bool Tryz.underlying4 _))
    (fun sp hsp => stays hb (by rw [Tryz.params5]; simp only [List.forall_mem_cons]; exact ⟨readable26, readable3, readable45, fun _ h => by simp at h⟩) hA1 hlt hsp) (fun _ _ => rfl) (by simp) hb (ok_one (by kernel_rfl) rfl (okWide_bool_mk Tryz.underlying4 _))⟩
set_option maxRecDepth 100000
theorem handProvesF0 : (Rows.handProvesRow.wf (OpenSpec.ofChange Rows.handProvesSpec)) = true := by kernel_rfl
theorem handProvesF3 : (Tryz.f5.params.all (Tryz.prog.readableRec ·)) = true := by kernel_rfl
theorem handProvesF4 : (namedTie Tryz.prog Rows.handProvesRow.named Rows.handProvesSpec.vars) = true := by kernel_rfl
theorem handProvesF5 : (Rows.handProvesRow.stops == []) = true := by kernel_rfl
theorem handProvesF7 : (Rows.handProvesRow.knobs == []) = true := by kernel_rfl
theorem handProvesF9 : (Rows.handProvesRow.inPlace == Tryz.prog.inPlace 5) = true := by kernel_rfl
theorem handProvesF10 : (Rows.handProvesRow.unfollowed == Tryz.prog.unfollowed 5) = true := by kernel_rfl
theorem handProvesF11 : (Rows.handProvesRow.recurses == Tryz.prog.recurses 5) = true := by kernel_rfl
theorem handProvesF12 : (Rows.handProvesRow.named == Tryz.prog.varsNamed 5) = true := by kernel_rfl
theorem handProvesF13 : (Rows.handProvesRow.maps == (Tryz.f5.params.toList ++ Rows.handProvesSpec.plain.varTypes Tryz.prog).any (Tryz.prog.mapsRec ·)) = true := by kernel_rfl
theorem handProvesF14 : (Rows.handProvesRow.ifaces == (Tryz.f5.params.toList ++ Rows.handProvesSpec.plain.varTypes Tryz.prog).any (Tryz.prog.ifacesRec ·)) = true := by kernel_rfl
theorem handProvesF15 : (Rows.handProvesRow.mapsOut == Tryz.prog.mapsAmong Tryz.f5.resultTypes.toList) = true := by kernel_rfl
theorem handProvesF16 : (Rows.handProvesRow.loops == (Tryz.f5.params.toList ++ Rows.handProvesSpec.plain.varTypes Tryz.prog).any (Tryz.prog.loopsFrom ·)) = true := by kernel_rfl
theorem handProvesF17 : (Rows.handProvesRow.wideKeys == (Tryz.f5.params.toList ++ Rows.handProvesSpec.plain.varTypes Tryz.prog ++ Tryz.f5.resultTypes.toList).any (Tryz.prog.wideKeysFrom ·)) = true := by kernel_rfl
theorem handProvesF18 : (Rows.handProvesSpec.vars.all (Tryz.prog.varReadable ·)) = true := by kernel_rfl
theorem handProvesF19 : (Tryz.f5.resultTypes.all (fun t => Tryz.prog.readableRec t && decide (t < Tryz.prog.types.size))) = true := by kernel_rfl
theorem handProvesF20 : (Rows.handProvesRow.ifacesOut == Tryz.f5.resultTypes.toList.any (Tryz.prog.ifacesRec ·)) = true := by kernel_rfl
theorem handProvesF21 : (Rows.handProvesRow.loopsOut == Tryz.f5.resultTypes.toList.any (Tryz.prog.loopsFrom ·)) = true := by kernel_rfl
theorem handProvesF22 : (Rows.handProvesRow.plainKeys == Tryz.prog.plainKeys) = true := eqT factPlain (by kernel_rfl)
theorem handProvesF23 : (Rows.handProvesRow.shortTexts.isNone) = true := by kernel_rfl
theorem handProvesF26 : (Rows.handProvesRow.lifted == Tryz.prog.liftsFinal) = true := by rw [factLifts]; kernel_rfl
theorem handProvesF27 : (Tryz.prog.make == some Rows.handProvesRow.make) = true := factMake
theorem handProvesF28 : (Rows.handProvesRow.kinds == (if Rows.handProvesRow.domain.isEmpty then [] else Tryz.f5.params.toList.map fun t => match Tryz.prog.underlying t with | some (.int k) => some k | _ => none)) = true := by kernel_rfl
theorem handProvesF29 : (Rows.handProvesRow.pinned == Rows.handProvesRow.pinnedBy) = true := by kernel_rfl
theorem handProvesF30 : (Rows.handProvesRow.veiled == (Tryz.f5.params.toList ++ Rows.handProvesSpec.plain.varTypes Tryz.prog ++ Tryz.f5.resultTypes.toList).any (Tryz.prog.veiledRec ·)) = true := by kernel_rfl
theorem handProvesF31 : (Rows.handProvesRow.veiledFits Tryz.prog Tryz.f5.params.toList (Tryz.f5.params.toList ++ Rows.handProvesSpec.plain.varTypes Tryz.prog ++ Tryz.f5.resultTypes.toList)) = true := by kernel_rfl
theorem handProvesJoined : joinedFacts Tryz.prog 5 Tryz.f5 Rows.handProvesSpec Rows.handProvesRow = true := (andT (andT (andT (andT (andT (andT (andT (andT (andT (andT (andT (andT (andT (andT (andT (andT (andT (andT (andT (andT (andT (andT (andT (andT (andT (andT (andT (andT (andT (andT (andT handProvesF0 fact1) fact2) handProvesF3) handProvesF4) handProvesF5) fact6) handProvesF7) fact8) handProvesF9) handProvesF10) handProvesF11) handProvesF12) handProvesF13) handProvesF14) handProvesF15) handProvesF16) handProvesF17) handProvesF18) handProvesF19) handProvesF20) handProvesF21) handProvesF22) handProvesF23) fact24) fact25) handProvesF26) handProvesF27) handProvesF28) handProvesF29) handProvesF30) handProvesF31)
theorem handProves_holds : Rows.HandProvesSaid :=
  OpenClaim.holds_of_wide 5 Tryz.f5 rfl rfl rfl rfl rfl rfl rfl ⟨rfl, rfl, rfl, rfl, rfl⟩ rfl rfl rfl rfl rfl (by kernel_rfl) Tryz.func5 handProvesJoined
    (of_decide_eq_true (by kernel_rfl)) (by unfold Func.isWrapper; rw [if_neg (of_decide_eq_false (by kernel_rfl))]; exact ⟨rfl, rfl⟩)
    (fun os started H enc _ => lifted5 os started H enc)
#print axioms handProves_holds
end Go.Proofs.YtkhjmedfhobebaaGreat
