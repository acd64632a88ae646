/- LoanOnce: for every argument the law returns true, and each argument reads as before. No condition. -/
import Derived.Test.YtbceepjjdfpfmaaGreatFacts
import Derived.Test.YtbceepjjdfpfmaaGreatLawK
import Derived.Test.YtbceepjjdfpfmaaGreatByt
import Derived.ProofKit
import Derived.OpenShut
namespace Go.Proofs.YtbceepjjdfpfmaaGreat
open Go.RowKit HandSpec LoanSpec Go.ChangeShapes Go.WideShapes Go.ChangeAt
theorem ownKnob_none : ownKnob Tryz.prog.godebug = none := by kernel_rfl
theorem readable54 : Tryz.prog.readableRec 54 = true ∧ 54 < Tryz.prog.types.size := ⟨by kernel_rfl, of_decide_eq_true (by kernel_rfl)⟩
set_option maxRecDepth 100000 in
theorem lifted5 (os : Os) (started : os.Started) (H : Type) (enc : TypeId × Value → H) :
    ReturnsInHanded {} Tryz.checked os 5 .any (Rows.loanOnceSpec.pre6 enc Tryz.prog Tryz.f5 Rows.loanOnceRow.domain false) (Rows.loanOnceSpec.post enc Tryz.prog Tryz.f5 false true false false) := by
  refine returnsInHanded_of_change (C := Tryz.checked) ownKnob_none started (by kernel_rfl) Tryz.func5
    (ChangeSpec.witness6 (enc := enc) (C := Tryz.checked) false ⟨#[], #[.slice none 0 0], []⟩ 8 (by kernel_rfl) (by kernel_rfl) (by kernel_rfl) (by kernel_rfl)) ?_
  intro W base args ds gs before hval0 hW hcnd _
  have hval : ∀ (j : Nat) t v, Tryz.f5.params[j]? = some t → args[j]? = some v → Value.okWide Tryz.prog W .any base t v := hval0
  have hW' := hW
  obtain ⟨p, q, hA0, hV, rfl, hfz, hnd⟩ := hW
  have hA : DataW.TrodAll enc Tryz.prog W 0 (fun _ => true) true Tryz.f5.params.toList args.toList ds p := hA0
  obtain ⟨rfl, rfl⟩ := trodVars_none hV
  have hlt : ∀ x ∈ p, x.block < W.heap.size := fun x hx => hW'.lt x (by simpa using hx)
  have hA1 := hA
  rw [Tryz.params5] at hA hval
  obtain ⟨v0, d0, rfl, rfl, h0⟩ := trodAll_one hA
  obtain ⟨A0, n0, cap0, rfl, hb0⟩ := open54 (hval 0 54 v0 rfl rfl) h0
  simp only [List.append_nil] at hW'
  refine (law5 hb0).mono fun e W' ⟨he, hb⟩ => ?_
  subst he
  exact ⟨_, rfl, post_later (pa := p) (pv := []) hW' (fun _ _ _ => trodAll_mk1 (shut_bool Tryz.underlying4 _))
    (fun sp hsp => stays hb (by rw [Tryz.params5]; simp only [List.forall_mem_cons]; exact ⟨readable54, fun _ h => by simp at h⟩) hA1 hlt hsp) (fun _ _ => rfl) (by simp) hb (ok_one (by kernel_rfl) rfl (okWide_bool_mk Tryz.underlying4 _))⟩
set_option maxRecDepth 100000
theorem loanOnceF0 : (Rows.loanOnceRow.wf (OpenSpec.ofChange Rows.loanOnceSpec)) = true := by kernel_rfl
theorem loanOnceF3 : (Tryz.f5.params.all (Tryz.prog.readableRec ·)) = true := by kernel_rfl
theorem loanOnceF4 : (namedTie Tryz.prog Rows.loanOnceRow.named Rows.loanOnceSpec.vars) = true := by kernel_rfl
theorem loanOnceF5 : (Rows.loanOnceRow.stops == []) = true := by kernel_rfl
theorem loanOnceF7 : (Rows.loanOnceRow.knobs == []) = true := by kernel_rfl
theorem loanOnceF9 : (Rows.loanOnceRow.inPlace == Tryz.prog.inPlace 5) = true := by kernel_rfl
theorem loanOnceF10 : (Rows.loanOnceRow.unfollowed == Tryz.prog.unfollowed 5) = true := by kernel_rfl
theorem loanOnceF11 : (Rows.loanOnceRow.recurses == Tryz.prog.recurses 5) = true := by kernel_rfl
theorem loanOnceF12 : (Rows.loanOnceRow.named == Tryz.prog.varsNamed 5) = true := by kernel_rfl
theorem loanOnceF13 : (Rows.loanOnceRow.maps == (Tryz.f5.params.toList ++ Rows.loanOnceSpec.plain.varTypes Tryz.prog).any (Tryz.prog.mapsRec ·)) = true := by kernel_rfl
theorem loanOnceF14 : (Rows.loanOnceRow.ifaces == (Tryz.f5.params.toList ++ Rows.loanOnceSpec.plain.varTypes Tryz.prog).any (Tryz.prog.ifacesRec ·)) = true := by kernel_rfl
theorem loanOnceF15 : (Rows.loanOnceRow.mapsOut == Tryz.prog.mapsAmong Tryz.f5.resultTypes.toList) = true := by kernel_rfl
theorem loanOnceF16 : (Rows.loanOnceRow.loops == (Tryz.f5.params.toList ++ Rows.loanOnceSpec.plain.varTypes Tryz.prog).any (Tryz.prog.loopsFrom ·)) = true := by kernel_rfl
theorem loanOnceF17 : (Rows.loanOnceRow.wideKeys == (Tryz.f5.params.toList ++ Rows.loanOnceSpec.plain.varTypes Tryz.prog ++ Tryz.f5.resultTypes.toList).any (Tryz.prog.wideKeysFrom ·)) = true := by kernel_rfl
theorem loanOnceF18 : (Rows.loanOnceSpec.vars.all (Tryz.prog.varReadable ·)) = true := by kernel_rfl
theorem loanOnceF19 : (Tryz.f5.resultTypes.all (fun t => Tryz.prog.readableRec t && decide (t < Tryz.prog.types.size))) = true := by kernel_rfl
theorem loanOnceF20 : (Rows.loanOnceRow.ifacesOut == Tryz.f5.resultTypes.toList.any (Tryz.prog.ifacesRec ·)) = true := by kernel_rfl
theorem loanOnceF21 : (Rows.loanOnceRow.loopsOut == Tryz.f5.resultTypes.toList.any (Tryz.prog.loopsFrom ·)) = true := by kernel_rfl
theorem loanOnceF22 : (Rows.loanOnceRow.plainKeys == Tryz.prog.plainKeys) = true := eqT factPlain (by kernel_rfl)
theorem loanOnceF23 : (Rows.loanOnceRow.shortTexts.isNone) = true := by kernel_rfl
theorem loanOnceF26 : (Rows.loanOnceRow.lifted == Tryz.prog.liftsFinal) = true := by rw [factLifts]; kernel_rfl
theorem loanOnceF27 : (Tryz.prog.make == some Rows.loanOnceRow.make) = true := factMake
theorem loanOnceF28 : (Rows.loanOnceRow.kinds == (if Rows.loanOnceRow.domain.isEmpty then [] else Tryz.f5.params.toList.map fun t => match Tryz.prog.underlying t with | some (.int k) => some k | _ => none)) = true := by kernel_rfl
theorem loanOnceF29 : (Rows.loanOnceRow.pinned == Rows.loanOnceRow.pinnedBy) = true := by kernel_rfl
theorem loanOnceF30 : (Rows.loanOnceRow.veiled == (Tryz.f5.params.toList ++ Rows.loanOnceSpec.plain.varTypes Tryz.prog ++ Tryz.f5.resultTypes.toList).any (Tryz.prog.veiledRec ·)) = true := by kernel_rfl
theorem loanOnceF31 : (Rows.loanOnceRow.veiledFits Tryz.prog Tryz.f5.params.toList (Tryz.f5.params.toList ++ Rows.loanOnceSpec.plain.varTypes Tryz.prog ++ Tryz.f5.resultTypes.toList)) = true := by kernel_rfl
theorem loanOnceJoined : joinedFacts Tryz.prog 5 Tryz.f5 Rows.loanOnceSpec Rows.loanOnceRow = true := (andT (andT (andT (andT (andT (andT (andT (andT (andT (andT (andT (andT (andT (andT (andT (andT (andT (andT (andT (andT (andT (andT (andT (andT (andT (andT (andT (andT (andT (andT (andT loanOnceF0 fact1) fact2) loanOnceF3) loanOnceF4) loanOnceF5) fact6) loanOnceF7) fact8) loanOnceF9) loanOnceF10) loanOnceF11) loanOnceF12) loanOnceF13) loanOnceF14) loanOnceF15) loanOnceF16) loanOnceF17) loanOnceF18) loanOnceF19) loanOnceF20) loanOnceF21) loanOnceF22) loanOnceF23) fact24) fact25) loanOnceF26) loanOnceF27) loanOnceF28) loanOnceF29) loanOnceF30) loanOnceF31)
theorem loanOnce_holds : Rows.LoanOnceSaid :=
  OpenClaim.holds_of_wide 5 Tryz.f5 rfl rfl rfl rfl rfl rfl rfl ⟨rfl, rfl, rfl, rfl, rfl⟩ rfl rfl rfl rfl rfl (by kernel_rfl) Tryz.func5 loanOnceJoined
    (of_decide_eq_true (by kernel_rfl)) (by unfold Func.isWrapper; rw [if_neg (of_decide_eq_false (by kernel_rfl))]; exact ⟨rfl, rfl⟩)
    (fun os started H enc _ => lifted5 os started H enc)
#print axioms loanOnce_holds
end Go.Proofs.YtbceepjjdfpfmaaGreat
