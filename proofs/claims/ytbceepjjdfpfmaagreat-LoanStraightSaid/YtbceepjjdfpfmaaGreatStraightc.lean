/- LoanStraight: for every argument the law returns true, and each argument reads as before. No condition. -/
import Derived.Test.YtbceepjjdfpfmaaGreatFacts
import Derived.Test.YtbceepjjdfpfmaaGreatLawM
import Derived.Test.YtbceepjjdfpfmaaGreatByt
import Derived.ProofKit
import Derived.OpenShut
namespace Go.Proofs.YtbceepjjdfpfmaaGreat
open Go.RowKit HandSpec LoanSpec Go.ChangeShapes Go.WideShapes Go.ChangeAt
theorem ownKnob_none : ownKnob Tryz.prog.godebug = none := by kernel_rfl
theorem readable54 : Tryz.prog.readableRec 54 = true ∧ 54 < Tryz.prog.types.size := ⟨by kernel_rfl, of_decide_eq_true (by kernel_rfl)⟩
set_option maxRecDepth 100000 in
theorem lifted11 (os : Os) (started : os.Started) (H : Type) (enc : TypeId × Value → H) :
    ReturnsInHanded {} Tryz.checked os 11 .any (Rows.loanStraightSpec.pre6 enc Tryz.prog Tryz.f11 Rows.loanStraightRow.domain false) (Rows.loanStraightSpec.post enc Tryz.prog Tryz.f11 false true false false) := by
  refine returnsInHanded_of_change (C := Tryz.checked) ownKnob_none started (by kernel_rfl) Tryz.func11
    (ChangeSpec.witness6 (enc := enc) (C := Tryz.checked) false ⟨#[], #[.slice none 0 0], []⟩ 8 (by kernel_rfl) (by kernel_rfl) (by kernel_rfl) (by kernel_rfl)) ?_
  intro W base args ds gs before hval0 hW hcnd _
  have hval : ∀ (j : Nat) t v, Tryz.f11.params[j]? = some t → args[j]? = some v → Value.okWide Tryz.prog W .any base t v := hval0
  have hW' := hW
  obtain ⟨p, q, hA0, hV, rfl, hfz, hnd⟩ := hW
  have hA : DataW.TrodAll enc Tryz.prog W 0 (fun _ => true) true Tryz.f11.params.toList args.toList ds p := hA0
  obtain ⟨rfl, rfl⟩ := trodVars_none hV
  have hlt : ∀ x ∈ p, x.block < W.heap.size := fun x hx => hW'.lt x (by simpa using hx)
  have hA1 := hA
  rw [Tryz.params11] at hA hval
  obtain ⟨v0, d0, rfl, rfl, h0⟩ := trodAll_one hA
  obtain ⟨A0, n0, cap0, rfl, hb0⟩ := open54 (hval 0 54 v0 rfl rfl) h0
  simp only [List.append_nil] at hW'
  refine (law11 hb0).mono fun e W' ⟨he, hb⟩ => ?_
  subst he
  exact ⟨_, rfl, post_later (pa := p) (pv := []) hW' (fun _ _ _ => trodAll_mk1 (shut_bool Tryz.underlying4 _))
    (fun sp hsp => stays hb (by rw [Tryz.params11]; simp only [List.forall_mem_cons]; exact ⟨readable54, fun _ h => by simp at h⟩) hA1 hlt hsp) (fun _ _ => rfl) (by simp) hb (ok_one (by kernel_rfl) rfl (okWide_bool_mk Tryz.underlying4 _))⟩
set_option maxRecDepth 100000
theorem loanStraightF0 : (Rows.loanStraightRow.wf (OpenSpec.ofChange Rows.loanStraightSpec)) = true := by kernel_rfl
theorem loanStraightF3 : (Tryz.f11.params.all (Tryz.prog.readableRec ·)) = true := by kernel_rfl
theorem loanStraightF4 : (namedTie Tryz.prog Rows.loanStraightRow.named Rows.loanStraightSpec.vars) = true := by kernel_rfl
theorem loanStraightF5 : (Rows.loanStraightRow.stops == []) = true := by kernel_rfl
theorem loanStraightF7 : (Rows.loanStraightRow.knobs == []) = true := by kernel_rfl
theorem loanStraightF9 : (Rows.loanStraightRow.inPlace == Tryz.prog.inPlace 11) = true := by kernel_rfl
theorem loanStraightF10 : (Rows.loanStraightRow.unfollowed == Tryz.prog.unfollowed 11) = true := by kernel_rfl
theorem loanStraightF11 : (Rows.loanStraightRow.recurses == Tryz.prog.recurses 11) = true := by kernel_rfl
theorem loanStraightF12 : (Rows.loanStraightRow.named == Tryz.prog.varsNamed 11) = true := by kernel_rfl
theorem loanStraightF13 : (Rows.loanStraightRow.maps == (Tryz.f11.params.toList ++ Rows.loanStraightSpec.plain.varTypes Tryz.prog).any (Tryz.prog.mapsRec ·)) = true := by kernel_rfl
theorem loanStraightF14 : (Rows.loanStraightRow.ifaces == (Tryz.f11.params.toList ++ Rows.loanStraightSpec.plain.varTypes Tryz.prog).any (Tryz.prog.ifacesRec ·)) = true := by kernel_rfl
theorem loanStraightF15 : (Rows.loanStraightRow.mapsOut == Tryz.prog.mapsAmong Tryz.f11.resultTypes.toList) = true := by kernel_rfl
theorem loanStraightF16 : (Rows.loanStraightRow.loops == (Tryz.f11.params.toList ++ Rows.loanStraightSpec.plain.varTypes Tryz.prog).any (Tryz.prog.loopsFrom ·)) = true := by kernel_rfl
theorem loanStraightF17 : (Rows.loanStraightRow.wideKeys == (Tryz.f11.params.toList ++ Rows.loanStraightSpec.plain.varTypes Tryz.prog ++ Tryz.f11.resultTypes.toList).any (Tryz.prog.wideKeysFrom ·)) = true := by kernel_rfl
theorem loanStraightF18 : (Rows.loanStraightSpec.vars.all (Tryz.prog.varReadable ·)) = true := by kernel_rfl
theorem loanStraightF19 : (Tryz.f11.resultTypes.all (fun t => Tryz.prog.readableRec t && decide (t < Tryz.prog.types.size))) = true := by kernel_rfl
theorem loanStraightF20 : (Rows.loanStraightRow.ifacesOut == Tryz.f11.resultTypes.toList.any (Tryz.prog.ifacesRec ·)) = true := by kernel_rfl
theorem loanStraightF21 : (Rows.loanStraightRow.loopsOut == Tryz.f11.resultTypes.toList.any (Tryz.prog.loopsFrom ·)) = true := by kernel_rfl
theorem loanStraightF22 : (Rows.loanStraightRow.plainKeys == Tryz.prog.plainKeys) = true := eqT factPlain (by kernel_rfl)
theorem loanStraightF23 : (Rows.loanStraightRow.shortTexts.isNone) = true := by kernel_rfl
theorem loanStraightF26 : (Rows.loanStraightRow.lifted == Tryz.prog.liftsFinal) = true := by rw [factLifts]; kernel_rfl
theorem loanStraightF27 : (Tryz.prog.make == some Rows.loanStraightRow.make) = true := factMake
theorem loanStraightF28 : (Rows.loanStraightRow.kinds == (if Rows.loanStraightRow.domain.isEmpty then [] else Tryz.f11.params.toList.map fun t => match Tryz.prog.underlying t with | some (.int k) => some k | _ => none)) = true := by kernel_rfl
theorem loanStraightF29 : (Rows.loanStraightRow.pinned == Rows.loanStraightRow.pinnedBy) = true := by kernel_rfl
theorem loanStraightF30 : (Rows.loanStraightRow.veiled == (Tryz.f11.params.toList ++ Rows.loanStraightSpec.plain.varTypes Tryz.prog ++ Tryz.f11.resultTypes.toList).any (Tryz.prog.veiledRec ·)) = true := by kernel_rfl
theorem loanStraightF31 : (Rows.loanStraightRow.veiledFits Tryz.prog Tryz.f11.params.toList (Tryz.f11.params.toList ++ Rows.loanStraightSpec.plain.varTypes Tryz.prog ++ Tryz.f11.resultTypes.toList)) = true := by kernel_rfl
theorem loanStraightJoined : joinedFacts Tryz.prog 11 Tryz.f11 Rows.loanStraightSpec Rows.loanStraightRow = true := (andT (andT (andT (andT (andT (andT (andT (andT (andT (andT (andT (andT (andT (andT (andT (andT (andT (andT (andT (andT (andT (andT (andT (andT (andT (andT (andT (andT (andT (andT (andT loanStraightF0 fact1) fact2) loanStraightF3) loanStraightF4) loanStraightF5) fact6) loanStraightF7) fact8) loanStraightF9) loanStraightF10) loanStraightF11) loanStraightF12) loanStraightF13) loanStraightF14) loanStraightF15) loanStraightF16) loanStraightF17) loanStraightF18) loanStraightF19) loanStraightF20) loanStraightF21) loanStraightF22) loanStraightF23) fact24) fact25) loanStraightF26) loanStraightF27) loanStraightF28) loanStraightF29) loanStraightF30) loanStraightF31)
theorem loanStraight_holds : Rows.LoanStraightSaid :=
  OpenClaim.holds_of_wide 11 Tryz.f11 rfl rfl rfl rfl rfl rfl rfl ⟨rfl, rfl, rfl, rfl, rfl⟩ rfl rfl rfl rfl rfl (by kernel_rfl) Tryz.func11 loanStraightJoined
    (of_decide_eq_true (by kernel_rfl)) (by unfold Func.isWrapper; rw [if_neg (of_decide_eq_false (by kernel_rfl))]; exact ⟨rfl, rfl⟩)
    (fun os started H enc _ => lifted11 os started H enc)
#print axioms loanStraight_holds
end Go.Proofs.YtbceepjjdfpfmaaGreat
