/- HandLeast: for every argument the law returns true, and each argument reads as before. No condition. -/
import Derived.Test.YtkhjmedfhobebaaGreatFacts
import Derived.Test.YtkhjmedfhobebaaGreatLawL
import Derived.Test.YtkhjmedfhobebaaGreatOpen
import Derived.ProofKit
import Derived.OpenShut
namespace Go.Proofs.YtkhjmedfhobebaaGreat
open Go.RowKit HandSpec Go.ChangeShapes Go.WideShapes Go.ChangeAt
theorem ownKnob_none : ownKnob Tryz.prog.godebug = none := by kernel_rfl
theorem readable3 : Tryz.prog.readableRec 3 = true ∧ 3 < Tryz.prog.types.size := ⟨by kernel_rfl, of_decide_eq_true (by kernel_rfl)⟩
theorem readable26 : Tryz.prog.readableRec 26 = true ∧ 26 < Tryz.prog.types.size := ⟨by kernel_rfl, of_decide_eq_true (by kernel_rfl)⟩
set_option maxRecDepth 100000 in
theorem lifted3 (os : Os) (started : os.Started) (H : Type) (enc : TypeId × Value → H) :
    ReturnsInHanded {} Tryz.checked os 3 .any (Rows.handLeastSpec.pre6 enc Tryz.prog Tryz.f3 Rows.handLeastRow.domain false) (Rows.handLeastSpec.post enc Tryz.prog Tryz.f3 false true false false) := by
  refine returnsInHanded_of_change (C := Tryz.checked) ownKnob_none started (by kernel_rfl) Tryz.func3
    (ChangeSpec.witness6 (enc := enc) (C := Tryz.checked) false ⟨#[], #[.agg #[.int .i64 0, .int .i64 0, .int .i64 0, .slice none 0 0, .slice none 0 0, .slice none 0 0], .int .i64 0], []⟩ 8 (by kernel_rfl) (by kernel_rfl) (by kernel_rfl) (by kernel_rfl)) ?_
  intro W base args ds gs before hval0 hW hcnd _
  have hval : ∀ (j : Nat) t v, Tryz.f3.params[j]? = some t → args[j]? = some v → Value.okWide Tryz.prog W .any base t v := hval0
  have hW' := hW
  obtain ⟨p, q, hA0, hV, rfl, hfz, hnd⟩ := hW
  have hA : DataW.TrodAll enc Tryz.prog W 0 (fun _ => true) true Tryz.f3.params.toList args.toList ds p := hA0
  obtain ⟨rfl, rfl⟩ := trodVars_none hV
  have hlt : ∀ x ∈ p, x.block < W.heap.size := fun x hx => hW'.lt x (by simpa using hx)
  have hA1 := hA
  rw [Tryz.params3] at hA hval
  obtain ⟨v0, v1, d0, d1, p0, p1, rfl, rfl, rfl, h0, h1⟩ := trodAll_two hA
  obtain ⟨x, hx⟩ := open26 (hval 0 26 v0 rfl rfl) h0
  obtain ⟨k1, rfl, -, -, -⟩ := open_int Tryz.underlying3 (hval 1 3 v1 rfl rfl) h1
  simp only [List.append_nil] at hW'
  refine (law3 hx k1).mono fun e W' ⟨he, hb⟩ => ?_
  subst he
  exact ⟨_, rfl, post_later (pa := p0 ++ p1) (pv := []) hW' (fun _ _ _ => trodAll_mk1 (shut_bool Tryz.underlying4 _))
    (fun sp hsp => stays hb (by rw [Tryz.params3]; simp only [List.forall_mem_cons]; exact ⟨readable26, readable3, fun _ h => by simp at h⟩) hA1 hlt hsp) (fun _ _ => rfl) (by simp) hb (ok_one (by kernel_rfl) rfl (okWide_bool_mk Tryz.underlying4 _))⟩
set_option maxRecDepth 100000
theorem handLeastF0 : (Rows.handLeastRow.wf (OpenSpec.ofChange Rows.handLeastSpec)) = true := by kernel_rfl
theorem handLeastF3 : (Tryz.f3.params.all (Tryz.prog.readableRec ·)) = true := by kernel_rfl
theorem handLeastF4 : (namedTie Tryz.prog Rows.handLeastRow.named Rows.handLeastSpec.vars) = true := by kernel_rfl
theorem handLeastF5 : (Rows.handLeastRow.stops == []) = true := by kernel_rfl
theorem handLeastF7 : (Rows.handLeastRow.knobs == []) = true := by kernel_rfl
theorem handLeastF9 : (Rows.handLeastRow.inPlace == Tryz.prog.inPlace 3) = true := by kernel_rfl
theorem handLeastF10 : (Rows.handLeastRow.unfollowed == Tryz.prog.unfollowed 3) = true := by kernel_rfl
theorem handLeastF11 : (Rows.handLeastRow.recurses == Tryz.prog.recurses 3) = true := by kernel_rfl
theorem handLeastF12 : (Rows.handLeastRow.named == Tryz.prog.varsNamed 3) = true := by kernel_rfl
theorem handLeastF13 : (Rows.handLeastRow.maps == (Tryz.f3.params.toList ++ Rows.handLeastSpec.plain.varTypes Tryz.prog).any (Tryz.prog.mapsRec ·)) = true := by kernel_rfl
theorem handLeastF14 : (Rows.handLeastRow.ifaces == (Tryz.f3.params.toList ++ Rows.handLeastSpec.plain.varTypes Tryz.prog).any (Tryz.prog.ifacesRec ·)) = true := by kernel_rfl
theorem handLeastF15 : (Rows.handLeastRow.mapsOut == Tryz.prog.mapsAmong Tryz.f3.resultTypes.toList) = true := by kernel_rfl
theorem handLeastF16 : (Rows.handLeastRow.loops == (Tryz.f3.params.toList ++ Rows.handLeastSpec.plain.varTypes Tryz.prog).any (Tryz.prog.loopsFrom ·)) = true := by kernel_rfl
theorem handLeastF17 : (Rows.handLeastRow.wideKeys == (Tryz.f3.params.toList ++ Rows.handLeastSpec.plain.varTypes Tryz.prog ++ Tryz.f3.resultTypes.toList).any (Tryz.prog.wideKeysFrom ·)) = true := by kernel_rfl
theorem handLeastF18 : (Rows.handLeastSpec.vars.all (Tryz.prog.varReadable ·)) = true := by kernel_rfl
theorem handLeastF19 : (Tryz.f3.resultTypes.all (fun t => Tryz.prog.readableRec t && decide (t < Tryz.prog.types.size))) = true := by kernel_rfl
theorem handLeastF20 : (Rows.handLeastRow.ifacesOut == Tryz.f3.resultTypes.toList.any (Tryz.prog.ifacesRec ·)) = true := by kernel_rfl
theorem handLeastF21 : (Rows.handLeastRow.loopsOut == Tryz.f3.resultTypes.toList.any (Tryz.prog.loopsFrom ·)) = true := by kernel_rfl
theorem handLeastF22 : (Rows.handLeastRow.plainKeys == Tryz.prog.plainKeys) = true := eqT factPlain (by kernel_rfl)
theorem handLeastF23 : (Rows.handLeastRow.shortTexts.isNone) = true := by kernel_rfl
theorem handLeastF26 : (Rows.handLeastRow.lifted == Tryz.prog.liftsFinal) = true := by rw [factLifts]; kernel_rfl
theorem handLeastF27 : (Tryz.prog.make == some Rows.handLeastRow.make) = true := factMake
theorem handLeastF28 : (Rows.handLeastRow.kinds == (if Rows.handLeastRow.domain.isEmpty then [] else Tryz.f3.params.toList.map fun t => match Tryz.prog.underlying t with | some (.int k) => some k | _ => none)) = true := by kernel_rfl
theorem handLeastF29 : (Rows.handLeastRow.pinned == Rows.handLeastRow.pinnedBy) = true := by kernel_rfl
theorem handLeastF30 : (Rows.handLeastRow.veiled == (Tryz.f3.params.toList ++ Rows.handLeastSpec.plain.varTypes Tryz.prog ++ Tryz.f3.resultTypes.toList).any (Tryz.prog.veiledRec ·)) = true := by kernel_rfl
theorem handLeastF31 : (Rows.handLeastRow.veiledFits Tryz.prog Tryz.f3.params.toList (Tryz.f3.params.toList ++ Rows.handLeastSpec.plain.varTypes Tryz.prog ++ Tryz.f3.resultTypes.toList)) = true := by kernel_rfl
theorem handLeastJoined : joinedFacts Tryz.prog 3 Tryz.f3 Rows.handLeastSpec Rows.handLeastRow = true := (andT (andT (andT (andT (andT (andT (andT (andT (andT (andT (andT (andT (andT (andT (andT (andT (andT (andT (andT (andT (andT (andT (andT (andT (andT (andT (andT (andT (andT (andT (andT handLeastF0 fact1) fact2) handLeastF3) handLeastF4) handLeastF5) fact6) handLeastF7) fact8) handLeastF9) handLeastF10) handLeastF11) handLeastF12) handLeastF13) handLeastF14) handLeastF15) handLeastF16) handLeastF17) handLeastF18) handLeastF19) handLeastF20) handLeastF21) handLeastF22) handLeastF23) fact24) fact25) handLeastF26) handLeastF27) handLeastF28) handLeastF29) handLeastF30) handLeastF31)
theorem handLeast_holds : Rows.HandLeastSaid :=
  OpenClaim.holds_of_wide 3 Tryz.f3 rfl rfl rfl rfl rfl rfl rfl ⟨rfl, rfl, rfl, rfl, rfl⟩ rfl rfl rfl rfl rfl (by kernel_rfl) Tryz.func3 handLeastJoined
    (of_decide_eq_true (by kernel_rfl)) (by unfold Func.isWrapper; rw [if_neg (of_decide_eq_false (by kernel_rfl))]; exact ⟨rfl, rfl⟩)
    (fun os started H enc _ => lifted3 os started H enc)
#print axioms handLeast_holds
end Go.Proofs.YtkhjmedfhobebaaGreat
