/- LoanFewest: for every argument the law returns true, and each argument reads as before. No condition. -/
import Derived.Test.YtbceepjjdfpfmaaGreatFacts
import Derived.Test.YtbceepjjdfpfmaaGreatLawL
import Derived.Test.YtbceepjjdfpfmaaGreatByt
import Derived.ProofKit
import Derived.OpenShut
namespace Go.Proofs.YtbceepjjdfpfmaaGreat
open Go.RowKit HandSpec LoanSpec Go.ChangeShapes Go.WideShapes Go.ChangeAt
theorem ownKnob_none : ownKnob Tryz.prog.godebug = none := by kernel_rfl
theorem readable54 : Tryz.prog.readableRec 54 = true ∧ 54 < Tryz.prog.types.size := ⟨by kernel_rfl, of_decide_eq_true (by kernel_rfl)⟩
set_option maxRecDepth 100000 in
theorem lifted9 (os : Os) (started : os.Started) (H : Type) (enc : TypeId × Value → H) :
    ReturnsInHanded {} Tryz.checked os 9 .any (Rows.loanFewestSpec.pre6 enc Tryz.prog Tryz.f9 Rows.loanFewestRow.domain false) (Rows.loanFewestSpec.post enc Tryz.prog Tryz.f9 false true false false) := by
  refine returnsInHanded_of_change (C := Tryz.checked) ownKnob_none started (by kernel_rfl) Tryz.func9
    (ChangeSpec.witness6 (enc := enc) (C := Tryz.checked) false ⟨#[], #[.slice none 0 0, .slice none 0 0], []⟩ 8 (by kernel_rfl) (by kernel_rfl) (by kernel_rfl) (by kernel_rfl)) ?_
  intro W base args ds gs before hval0 hW hcnd _
  have hval : ∀ (j : Nat) t v, Tryz.f9.params[j]? = some t → args[j]? = some v → Value.okWide Tryz.prog W .any base t v := hval0
  have hW' := hW
  obtain ⟨p, q, hA0, hV, rfl, hfz, hnd⟩ := hW
  have hA : DataW.TrodAll enc Tryz.prog W 0 (fun _ => true) true Tryz.f9.params.toList args.toList ds p := hA0
  obtain ⟨rfl, rfl⟩ := trodVars_none hV
  have hlt : ∀ x ∈ p, x.block < W.heap.size := fun x hx => hW'.lt x (by simpa using hx)
  have hA1 := hA
  rw [Tryz.params9] at hA hval
  obtain ⟨v0, v1, d0, d1, p0, p1, rfl, rfl, rfl, h0, h1⟩ := trodAll_two hA
  obtain ⟨A0, n0, cap0, rfl, hb0⟩ := open54 (hval 0 54 v0 rfl rfl) h0
  obtain ⟨A1, n1, cap1, rfl, hb1⟩ := open54 (hval 1 54 v1 rfl rfl) h1
  simp only [List.append_nil] at hW'
  refine (law9 hb0 hb1).mono fun e W' ⟨he, hb⟩ => ?_
  subst he
  exact ⟨_, rfl, post_later (pa := p0 ++ p1) (pv := []) hW' (fun _ _ _ => trodAll_mk1 (shut_bool Tryz.underlying4 _))
    (fun sp hsp => stays hb (by rw [Tryz.params9]; simp only [List.forall_mem_cons]; exact ⟨readable54, readable54, fun _ h => by simp at h⟩) hA1 hlt hsp) (fun _ _ => rfl) (by simp) hb (ok_one (by kernel_rfl) rfl (okWide_bool_mk Tryz.underlying4 _))⟩
set_option maxRecDepth 100000
theorem loanFewestF0 : (Rows.loanFewestRow.wf (OpenSpec.ofChange Rows.loanFewestSpec)) = true := by kernel_rfl
theorem loanFewestF3 : (Tryz.f9.params.all (Tryz.prog.readableRec ·)) = true := by kernel_rfl
theorem loanFewestF4 : (namedTie Tryz.prog Rows.loanFewestRow.named Rows.loanFewestSpec.vars) = true := by kernel_rfl
theorem loanFewestF5 : (Rows.loanFewestRow.stops == []) = true := by kernel_rfl
theorem loanFewestF7 : (Rows.loanFewestRow.knobs == []) = true := by kernel_rfl
theorem loanFewestF9 : (Rows.loanFewestRow.inPlace == Tryz.prog.inPlace 9) = true := by kernel_rfl
theorem loanFewestF10 : (Rows.loanFewestRow.unfollowed == Tryz.prog.unfollowed 9) = true := by kernel_rfl
theorem loanFewestF11 : (Rows.loanFewestRow.recurses == Tryz.prog.recurses 9) = true := by kernel_rfl
theorem loanFewestF12 : (Rows.loanFewestRow.named == Tryz.prog.varsNamed 9) = true := by kernel_rfl
theorem loanFewestF13 : (Rows.loanFewestRow.maps == (Tryz.f9.params.toList ++ Rows.loanFewestSpec.plain.varTypes Tryz.prog).any (Tryz.prog.mapsRec ·)) = true := by kernel_rfl
theorem loanFewestF14 : (Rows.loanFewestRow.ifaces == (Tryz.f9.params.toList ++ Rows.loanFewestSpec.plain.varTypes Tryz.prog).any (Tryz.prog.ifacesRec ·)) = true := by kernel_rfl
theorem loanFewestF15 : (Rows.loanFewestRow.mapsOut == Tryz.prog.mapsAmong Tryz.f9.resultTypes.toList) = true := by kernel_rfl
theorem loanFewestF16 : (Rows.loanFewestRow.loops == (Tryz.f9.params.toList ++ Rows.loanFewestSpec.plain.varTypes Tryz.prog).any (Tryz.prog.loopsFrom ·)) = true := by kernel_rfl
theorem loanFewestF17 : (Rows.loanFewestRow.wideKeys == (Tryz.f9.params.toList ++ Rows.loanFewestSpec.plain.varTypes Tryz.prog ++ Tryz.f9.resultTypes.toList).any (Tryz.prog.wideKeysFrom ·)) = true := by kernel_rfl
theorem loanFewestF18 : (Rows.loanFewestSpec.vars.all (Tryz.prog.varReadable ·)) = true := by kernel_rfl
theorem loanFewestF19 : (Tryz.f9.resultTypes.all (fun t => Tryz.prog.readableRec t && decide (t < Tryz.prog.types.size))) = true := by kernel_rfl
theorem loanFewestF20 : (Rows.loanFewestRow.ifacesOut == Tryz.f9.resultTypes.toList.any (Tryz.prog.ifacesRec ·)) = true := by kernel_rfl
theorem loanFewestF21 : (Rows.loanFewestRow.loopsOut == Tryz.f9.resultTypes.toList.any (Tryz.prog.loopsFrom ·)) = true := by kernel_rfl
theorem loanFewestF22 : (Rows.loanFewestRow.plainKeys == Tryz.prog.plainKeys) = true := eqT factPlain (by kernel_rfl)
theorem loanFewestF23 : (Rows.loanFewestRow.shortTexts.isNone) = true := by kernel_rfl
theorem loanFewestF26 : (Rows.loanFewestRow.lifted == Tryz.prog.liftsFinal) = true := by rw [factLifts]; kernel_rfl
theorem loanFewestF27 : (Tryz.prog.make == some Rows.loanFewestRow.make) = true := factMake
theorem loanFewestF28 : (Rows.loanFewestRow.kinds == (if Rows.loanFewestRow.domain.isEmpty then [] else Tryz.f9.params.toList.map fun t => match Tryz.prog.underlying t with | some (.int k) => some k | _ => none)) = true := by kernel_rfl
theorem loanFewestF29 : (Rows.loanFewestRow.pinned == Rows.loanFewestRow.pinnedBy) = true := by kernel_rfl
theorem loanFewestF30 : (Rows.loanFewestRow.veiled == (Tryz.f9.params.toList ++ Rows.loanFewestSpec.plain.varTypes Tryz.prog ++ Tryz.f9.resultTypes.toList).any (Tryz.prog.veiledRec ·)) = true := by kernel_rfl
theorem loanFewestF31 : (Rows.loanFewestRow.veiledFits Tryz.prog Tryz.f9.params.toList (Tryz.f9.params.toList ++ Rows.loanFewestSpec.plain.varTypes Tryz.prog ++ Tryz.f9.resultTypes.toList)) = true := by kernel_rfl
theorem loanFewestJoined : joinedFacts Tryz.prog 9 Tryz.f9 Rows.loanFewestSpec Rows.loanFewestRow = true := (andT (andT (andT (andT (andT (andT (andT (andT (andT (andT (andT (andT (andT (andT (andT (andT (andT (andT (andT (andT (andT (andT (andT (andT (andT (andT (andT (andT (andT (andT (andT loanFewestF0 fact1) fact2) loanFewestF3) loanFewestF4) loanFewestF5) fact6) loanFewestF7) fact8) loanFewestF9) loanFewestF10) loanFewestF11) loanFewestF12) loanFewestF13) loanFewestF14) loanFewestF15) loanFewestF16) loanFewestF17) loanFewestF18) loanFewestF19) loanFewestF20) loanFewestF21) loanFewestF22) loanFewestF23) fact24) fact25) loanFewestF26) loanFewestF27) loanFewestF28) loanFewestF29) loanFewestF30) loanFewestF31)
theorem loanFewest_holds : Rows.LoanFewestSaid :=
  OpenClaim.holds_of_wide 9 Tryz.f9 rfl rfl rfl rfl rfl rfl rfl ⟨rfl, rfl, rfl, rfl, rfl⟩ rfl rfl rfl rfl rfl (by kernel_rfl) Tryz.func9 loanFewestJoined
    (of_decide_eq_true (by kernel_rfl)) (by unfold Func.isWrapper; rw [if_neg (of_decide_eq_false (by kernel_rfl))]; exact ⟨rfl, rfl⟩)
    (fun os started H enc _ => lifted9 os started H enc)
#print axioms loanFewest_holds
end Go.Proofs.YtbceepjjdfpfmaaGreat
