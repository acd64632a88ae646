/- LoanOwed: for every argument the law returns true, and each argument reads as before. No condition. -/
import Derived.Test.YtbceepjjdfpfmaaGreatFacts
import Derived.Test.YtbceepjjdfpfmaaGreatLawH
import Derived.Test.YtbceepjjdfpfmaaGreatByt
import Derived.ProofKit
import Derived.OpenShut
namespace Go.Proofs.YtbceepjjdfpfmaaGreat
open Go.RowKit HandSpec LoanSpec Go.ChangeShapes Go.WideShapes Go.ChangeAt
theorem ownKnob_none : ownKnob Tryz.prog.godebug = none := by kernel_rfl
theorem readable54 : Tryz.prog.readableRec 54 = true ∧ 54 < Tryz.prog.types.size := ⟨by kernel_rfl, of_decide_eq_true (by kernel_rfl)⟩
set_option maxRecDepth 100000 in
theorem lifted4 (os : Os) (started : os.Started) (H : Type) (enc : TypeId × Value → H) :
    ReturnsInHanded {} Tryz.checked os 4 .any (Rows.loanOwedSpec.pre6 enc Tryz.prog Tryz.f4 Rows.loanOwedRow.domain false) (Rows.loanOwedSpec.post enc Tryz.prog Tryz.f4 false true false false) := by
  refine returnsInHanded_of_change (C := Tryz.checked) ownKnob_none started (by kernel_rfl) Tryz.func4
    (ChangeSpec.witness6 (enc := enc) (C := Tryz.checked) false ⟨#[], #[.slice none 0 0], []⟩ 8 (by kernel_rfl) (by kernel_rfl) (by kernel_rfl) (by kernel_rfl)) ?_
  intro W base args ds gs before hval0 hW hcnd _
  have hval : ∀ (j : Nat) t v, Tryz.f4.params[j]? = some t → args[j]? = some v → Value.okWide Tryz.prog W .any base t v := hval0
  have hW' := hW
  obtain ⟨p, q, hA0, hV, rfl, hfz, hnd⟩ := hW
  have hA : DataW.TrodAll enc Tryz.prog W 0 (fun _ => true) true Tryz.f4.params.toList args.toList ds p := hA0
  obtain ⟨rfl, rfl⟩ := trodVars_none hV
  have hlt : ∀ x ∈ p, x.block < W.heap.size := fun x hx => hW'.lt x (by simpa using hx)
  have hA1 := hA
  rw [Tryz.params4] at hA hval
  obtain ⟨v0, d0, rfl, rfl, h0⟩ := trodAll_one hA
  obtain ⟨A0, n0, cap0, rfl, hb0⟩ := open54 (hval 0 54 v0 rfl rfl) h0
  simp only [List.append_nil] at hW'
  refine (law4 hb0).mono fun e W' ⟨he, hb⟩ => ?_
  subst he
  exact ⟨_, rfl, post_later (pa := p) (pv := []) hW' (fun _ _ _ => trodAll_mk1 (shut_bool Tryz.underlying4 _))
    (fun sp hsp => stays hb (by rw [Tryz.params4]; simp only [List.forall_mem_cons]; exact ⟨readable54, fun _ h => by simp at h⟩) hA1 hlt hsp) (fun _ _ => rfl) (by simp) hb (ok_one (by kernel_rfl) rfl (okWide_bool_mk Tryz.underlying4 _))⟩
set_option maxRecDepth 100000
theorem loanOwedF0 : (Rows.loanOwedRow.wf (OpenSpec.ofChange Rows.loanOwedSpec)) = true := by kernel_rfl
theorem loanOwedF3 : (Tryz.f4.params.all (Tryz.prog.readableRec ·)) = true := by kernel_rfl
theorem loanOwedF4 : (namedTie Tryz.prog Rows.loanOwedRow.named Rows.loanOwedSpec.vars) = true := by kernel_rfl
theorem loanOwedF5 : (Rows.loanOwedRow.stops == []) = true := by kernel_rfl
theorem loanOwedF7 : (Rows.loanOwedRow.knobs == []) = true := by kernel_rfl
theorem loanOwedF9 : (Rows.loanOwedRow.inPlace == Tryz.prog.inPlace 4) = true := by kernel_rfl
theorem loanOwedF10 : (Rows.loanOwedRow.unfollowed == Tryz.prog.unfollowed 4) = true := by kernel_rfl
theorem loanOwedF11 : (Rows.loanOwedRow.recurses == Tryz.prog.recurses 4) = true := by kernel_rfl
theorem loanOwedF12 : (Rows.loanOwedRow.named == Tryz.prog.varsNamed 4) = true := by kernel_rfl
theorem loanOwedF13 : (Rows.loanOwedRow.maps == (Tryz.f4.params.toList ++ Rows.loanOwedSpec.plain.varTypes Tryz.prog).any (Tryz.prog.mapsRec ·)) = true := by kernel_rfl
theorem loanOwedF14 : (Rows.loanOwedRow.ifaces == (Tryz.f4.params.toList ++ Rows.loanOwedSpec.plain.varTypes Tryz.prog).any (Tryz.prog.ifacesRec ·)) = true := by kernel_rfl
theorem loanOwedF15 : (Rows.loanOwedRow.mapsOut == Tryz.prog.mapsAmong Tryz.f4.resultTypes.toList) = true := by kernel_rfl
theorem loanOwedF16 : (Rows.loanOwedRow.loops == (Tryz.f4.params.toList ++ Rows.loanOwedSpec.plain.varTypes Tryz.prog).any (Tryz.prog.loopsFrom ·)) = true := by kernel_rfl
theorem loanOwedF17 : (Rows.loanOwedRow.wideKeys == (Tryz.f4.params.toList ++ Rows.loanOwedSpec.plain.varTypes Tryz.prog ++ Tryz.f4.resultTypes.toList).any (Tryz.prog.wideKeysFrom ·)) = true := by kernel_rfl
theorem loanOwedF18 : (Rows.loanOwedSpec.vars.all (Tryz.prog.varReadable ·)) = true := by kernel_rfl
theorem loanOwedF19 : (Tryz.f4.resultTypes.all (fun t => Tryz.prog.readableRec t && decide (t < Tryz.prog.types.size))) = true := by kernel_rfl
theorem loanOwedF20 : (Rows.loanOwedRow.ifacesOut == Tryz.f4.resultTypes.toList.any (Tryz.prog.ifacesRec ·)) = true := by kernel_rfl
theorem loanOwedF21 : (Rows.loanOwedRow.loopsOut == Tryz.f4.resultTypes.toList.any (Tryz.prog.loopsFrom ·)) = true := by kernel_rfl
theorem loanOwedF22 : (Rows.loanOwedRow.plainKeys == Tryz.prog.plainKeys) = true := eqT factPlain (by kernel_rfl)
theorem loanOwedF23 : (Rows.loanOwedRow.shortTexts.isNone) = true := by kernel_rfl
theorem loanOwedF26 : (Rows.loanOwedRow.lifted == Tryz.prog.liftsFinal) = true := by rw [factLifts]; kernel_rfl
theorem loanOwedF27 : (Tryz.prog.make == some Rows.loanOwedRow.make) = true := factMake
theorem loanOwedF28 : (Rows.loanOwedRow.kinds == (if Rows.loanOwedRow.domain.isEmpty then [] else Tryz.f4.params.toList.map fun t => match Tryz.prog.underlying t with | some (.int k) => some k | _ => none)) = true := by kernel_rfl
theorem loanOwedF29 : (Rows.loanOwedRow.pinned == Rows.loanOwedRow.pinnedBy) = true := by kernel_rfl
theorem loanOwedF30 : (Rows.loanOwedRow.veiled == (Tryz.f4.params.toList ++ Rows.loanOwedSpec.plain.varTypes Tryz.prog ++ Tryz.f4.resultTypes.toList).any (Tryz.prog.veiledRec ·)) = true := by kernel_rfl
theorem loanOwedF31 : (Rows.loanOwedRow.veiledFits Tryz.prog Tryz.f4.params.toList (Tryz.f4.params.toList ++ Rows.loanOwedSpec.plain.varTypes Tryz.prog ++ Tryz.f4.resultTypes.toList)) = true := by kernel_rfl
theorem loanOwedJoined : joinedFacts Tryz.prog 4 Tryz.f4 Rows.loanOwedSpec Rows.loanOwedRow = true := (andT (andT (andT (andT (andT (andT (andT (andT (andT (andT (andT (andT (andT (andT (andT (andT (andT (andT (andT (andT (andT (andT (andT (andT (andT (andT (andT (andT (andT (andT (andT loanOwedF0 fact1) fact2) loanOwedF3) loanOwedF4) loanOwedF5) fact6) loanOwedF7) fact8) loanOwedF9) loanOwedF10) loanOwedF11) loanOwedF12) loanOwedF13) loanOwedF14) loanOwedF15) loanOwedF16) loanOwedF17) loanOwedF18) loanOwedF19) loanOwedF20) loanOwedF21) loanOwedF22) loanOwedF23) fact24) fact25) loanOwedF26) loanOwedF27) loanOwedF28) loanOwedF29) loanOwedF30) loanOwedF31)
theorem loanOwed_holds : Rows.LoanOwedSaid :=
  OpenClaim.holds_of_wide 4 Tryz.f4 rfl rfl rfl rfl rfl rfl rfl ⟨rfl, rfl, rfl, rfl, rfl⟩ rfl rfl rfl rfl rfl (by kernel_rfl) Tryz.func4 loanOwedJoined
    (of_decide_eq_true (by kernel_rfl)) (by unfold Func.isWrapper; rw [if_neg (of_decide_eq_false (by kernel_rfl))]; exact ⟨rfl, rfl⟩)
    (fun os started H enc _ => lifted4 os started H enc)
#print axioms loanOwed_holds
end Go.Proofs.YtbceepjjdfpfmaaGreat
