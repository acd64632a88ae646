/- LoanDue: for every argument the law returns true, and each argument reads as before. No condition. -/
import Derived.Test.YtbceepjjdfpfmaaGreatFacts
import Derived.Test.YtbceepjjdfpfmaaGreatLawI
import Derived.Test.YtbceepjjdfpfmaaGreatByt
import Derived.ProofKit
import Derived.OpenShut
namespace Go.Proofs.YtbceepjjdfpfmaaGreat
open Go.RowKit HandSpec LoanSpec Go.ChangeShapes Go.WideShapes Go.ChangeAt
theorem ownKnob_none : ownKnob Tryz.prog.godebug = none := by kernel_rfl
theorem readable5 : Tryz.prog.readableRec 5 = true ∧ 5 < Tryz.prog.types.size := ⟨by kernel_rfl, of_decide_eq_true (by kernel_rfl)⟩
theorem readable54 : Tryz.prog.readableRec 54 = true ∧ 54 < Tryz.prog.types.size := ⟨by kernel_rfl, of_decide_eq_true (by kernel_rfl)⟩
set_option maxRecDepth 100000 in
theorem lifted7 (os : Os) (started : os.Started) (H : Type) (enc : TypeId × Value → H) :
    ReturnsInHanded {} Tryz.checked os 7 .any (Rows.loanDueSpec.pre6 enc Tryz.prog Tryz.f7 Rows.loanDueRow.domain false) (Rows.loanDueSpec.post enc Tryz.prog Tryz.f7 false true false false) := by
  refine returnsInHanded_of_change (C := Tryz.checked) ownKnob_none started (by kernel_rfl) Tryz.func7
    (ChangeSpec.witness6 (enc := enc) (C := Tryz.checked) false ⟨#[], #[.slice none 0 0, .int .u8 0, .int .u8 0], []⟩ 8 (by kernel_rfl) (by kernel_rfl) (by kernel_rfl) (by kernel_rfl)) ?_
  intro W base args ds gs before hval0 hW hcnd _
  have hval : ∀ (j : Nat) t v, Tryz.f7.params[j]? = some t → args[j]? = some v → Value.okWide Tryz.prog W .any base t v := hval0
  have hW' := hW
  obtain ⟨p, q, hA0, hV, rfl, hfz, hnd⟩ := hW
  have hA : DataW.TrodAll enc Tryz.prog W 0 (fun _ => true) true Tryz.f7.params.toList args.toList ds p := hA0
  obtain ⟨rfl, rfl⟩ := trodVars_none hV
  have hlt : ∀ x ∈ p, x.block < W.heap.size := fun x hx => hW'.lt x (by simpa using hx)
  have hA1 := hA
  rw [Tryz.params7] at hA hval
  obtain ⟨v0, v1, v2, d0, d1, d2, p0, p1, p2, rfl, rfl, rfl, h0, h1, h2⟩ := trodAll_three hA
  obtain ⟨A0, n0, cap0, rfl, hb0⟩ := open54 (hval 0 54 v0 rfl rfl) h0
  obtain ⟨k1, rfl, -, -, hk1⟩ := open_int Tryz.underlying5 (hval 1 5 v1 rfl rfl) h1
  obtain ⟨j1, rfl, hj1⟩ := u8_nat hk1
  obtain ⟨k2, rfl, -, -, hk2⟩ := open_int Tryz.underlying5 (hval 2 5 v2 rfl rfl) h2
  obtain ⟨j2, rfl, hj2⟩ := u8_nat hk2
  simp only [List.append_nil] at hW'
  refine (law7 hb0 hj1 hj2).mono fun e W' ⟨he, hb⟩ => ?_
  subst he
  exact ⟨_, rfl, post_later (pa := p0 ++ p1 ++ p2) (pv := []) hW' (fun _ _ _ => trodAll_mk1 (shut_bool Tryz.underlying4 _))
    (fun sp hsp => stays hb (by rw [Tryz.params7]; simp only [List.forall_mem_cons]; exact ⟨readable54, readable5, readable5, fun _ h => by simp at h⟩) hA1 hlt hsp) (fun _ _ => rfl) (by simp) hb (ok_one (by kernel_rfl) rfl (okWide_bool_mk Tryz.underlying4 _))⟩
set_option maxRecDepth 100000
theorem loanDueF0 : (Rows.loanDueRow.wf (OpenSpec.ofChange Rows.loanDueSpec)) = true := by kernel_rfl
theorem loanDueF3 : (Tryz.f7.params.all (Tryz.prog.readableRec ·)) = true := by kernel_rfl
theorem loanDueF4 : (namedTie Tryz.prog Rows.loanDueRow.named Rows.loanDueSpec.vars) = true := by kernel_rfl
theorem loanDueF5 : (Rows.loanDueRow.stops == []) = true := by kernel_rfl
theorem loanDueF7 : (Rows.loanDueRow.knobs == []) = true := by kernel_rfl
theorem loanDueF9 : (Rows.loanDueRow.inPlace == Tryz.prog.inPlace 7) = true := by kernel_rfl
theorem loanDueF10 : (Rows.loanDueRow.unfollowed == Tryz.prog.unfollowed 7) = true := by kernel_rfl
theorem loanDueF11 : (Rows.loanDueRow.recurses == Tryz.prog.recurses 7) = true := by kernel_rfl
theorem loanDueF12 : (Rows.loanDueRow.named == Tryz.prog.varsNamed 7) = true := by kernel_rfl
theorem loanDueF13 : (Rows.loanDueRow.maps == (Tryz.f7.params.toList ++ Rows.loanDueSpec.plain.varTypes Tryz.prog).any (Tryz.prog.mapsRec ·)) = true := by kernel_rfl
theorem loanDueF14 : (Rows.loanDueRow.ifaces == (Tryz.f7.params.toList ++ Rows.loanDueSpec.plain.varTypes Tryz.prog).any (Tryz.prog.ifacesRec ·)) = true := by kernel_rfl
theorem loanDueF15 : (Rows.loanDueRow.mapsOut == Tryz.prog.mapsAmong Tryz.f7.resultTypes.toList) = true := by kernel_rfl
theorem loanDueF16 : (Rows.loanDueRow.loops == (Tryz.f7.params.toList ++ Rows.loanDueSpec.plain.varTypes Tryz.prog).any (Tryz.prog.loopsFrom ·)) = true := by kernel_rfl
theorem loanDueF17 : (Rows.loanDueRow.wideKeys == (Tryz.f7.params.toList ++ Rows.loanDueSpec.plain.varTypes Tryz.prog ++ Tryz.f7.resultTypes.toList).any (Tryz.prog.wideKeysFrom ·)) = true := by kernel_rfl
theorem loanDueF18 : (Rows.loanDueSpec.vars.all (Tryz.prog.varReadable ·)) = true := by kernel_rfl
theorem loanDueF19 : (Tryz.f7.resultTypes.all (fun t => Tryz.prog.readableRec t && decide (t < Tryz.prog.types.size))) = true := by kernel_rfl
theorem loanDueF20 : (Rows.loanDueRow.ifacesOut == Tryz.f7.resultTypes.toList.any (Tryz.prog.ifacesRec ·)) = true := by kernel_rfl
theorem loanDueF21 : (Rows.loanDueRow.loopsOut == Tryz.f7.resultTypes.toList.any (Tryz.prog.loopsFrom ·)) = true := by kernel_rfl
theorem loanDueF22 : (Rows.loanDueRow.plainKeys == Tryz.prog.plainKeys) = true := eqT factPlain (by kernel_rfl)
theorem loanDueF23 : (Rows.loanDueRow.shortTexts.isNone) = true := by kernel_rfl
theorem loanDueF26 : (Rows.loanDueRow.lifted == Tryz.prog.liftsFinal) = true := by rw [factLifts]; kernel_rfl
theorem loanDueF27 : (Tryz.prog.make == some Rows.loanDueRow.make) = true := factMake
theorem loanDueF28 : (Rows.loanDueRow.kinds == (if Rows.loanDueRow.domain.isEmpty then [] else Tryz.f7.params.toList.map fun t => match Tryz.prog.underlying t with | some (.int k) => some k | _ => none)) = true := by kernel_rfl
theorem loanDueF29 : (Rows.loanDueRow.pinned == Rows.loanDueRow.pinnedBy) = true := by kernel_rfl
theorem loanDueF30 : (Rows.loanDueRow.veiled == (Tryz.f7.params.toList ++ Rows.loanDueSpec.plain.varTypes Tryz.prog ++ Tryz.f7.resultTypes.toList).any (Tryz.prog.veiledRec ·)) = true := by kernel_rfl
theorem loanDueF31 : (Rows.loanDueRow.veiledFits Tryz.prog Tryz.f7.params.toList (Tryz.f7.params.toList ++ Rows.loanDueSpec.plain.varTypes Tryz.prog ++ Tryz.f7.resultTypes.toList)) = true := by kernel_rfl
theorem loanDueJoined : joinedFacts Tryz.prog 7 Tryz.f7 Rows.loanDueSpec Rows.loanDueRow = true := (andT (andT (andT (andT (andT (andT (andT (andT (andT (andT (andT (andT (andT (andT (andT (andT (andT (andT (andT (andT (andT (andT (andT (andT (andT (andT (andT (andT (andT (andT (andT loanDueF0 fact1) fact2) loanDueF3) loanDueF4) loanDueF5) fact6) loanDueF7) fact8) loanDueF9) loanDueF10) loanDueF11) loanDueF12) loanDueF13) loanDueF14) loanDueF15) loanDueF16) loanDueF17) loanDueF18) loanDueF19) loanDueF20) loanDueF21) loanDueF22) loanDueF23) fact24) fact25) loanDueF26) loanDueF27) loanDueF28) loanDueF29) loanDueF30) loanDueF31)
theorem loanDue_holds : Rows.LoanDueSaid :=
  OpenClaim.holds_of_wide 7 Tryz.f7 rfl rfl rfl rfl rfl rfl rfl ⟨rfl, rfl, rfl, rfl, rfl⟩ rfl rfl rfl rfl rfl (by kernel_rfl) Tryz.func7 loanDueJoined
    (of_decide_eq_true (by kernel_rfl)) (by unfold Func.isWrapper; rw [if_neg (of_decide_eq_false (by kernel_rfl))]; exact ⟨rfl, rfl⟩)
    (fun os started H enc _ => lifted7 os started H enc)
#print axioms loanDue_holds
end Go.Proofs.YtbceepjjdfpfmaaGreat
