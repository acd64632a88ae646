/- LoanOwes: for every argument the law returns true, and each argument reads as before. No condition. -/
import Derived.Test.YtbceepjjdfpfmaaGreatFacts
import Derived.Test.YtbceepjjdfpfmaaGreatLawF
import Derived.Test.YtbceepjjdfpfmaaGreatOpen
import Derived.ProofKit
import Derived.OpenShut
namespace Go.Proofs.YtbceepjjdfpfmaaGreat
open Go.RowKit HandSpec LoanSpec Go.ChangeShapes Go.WideShapes Go.ChangeAt
theorem ownKnob_none : ownKnob Tryz.prog.godebug = none := by kernel_rfl
theorem readable3 : Tryz.prog.readableRec 3 = true ∧ 3 < Tryz.prog.types.size := ⟨by kernel_rfl, of_decide_eq_true (by kernel_rfl)⟩
theorem readable27 : Tryz.prog.readableRec 27 = true ∧ 27 < Tryz.prog.types.size := ⟨by kernel_rfl, of_decide_eq_true (by kernel_rfl)⟩
set_option maxRecDepth 100000 in
theorem lifted3 (os : Os) (started : os.Started) (H : Type) (enc : TypeId × Value → H) :
    ReturnsInHanded {} Tryz.checked os 3 .any (Rows.loanOwesSpec.pre6 enc Tryz.prog Tryz.f3 Rows.loanOwesRow.domain false) (Rows.loanOwesSpec.post enc Tryz.prog Tryz.f3 false true false false) := by
  refine returnsInHanded_of_change (C := Tryz.checked) ownKnob_none started (by kernel_rfl) Tryz.func3
    (ChangeSpec.witness6 (enc := enc) (C := Tryz.checked) false ⟨#[], #[.agg #[.int .i64 0, .int .i64 0, .slice none 0 0, .slice none 0 0, .slice none 0 0, .slice none 0 0, .slice none 0 0], .int .i64 0, .int .i64 0], []⟩ 8 (by kernel_rfl) (by kernel_rfl) (by kernel_rfl) (by kernel_rfl)) ?_
  intro W base args ds gs before hval0 hW hcnd _
  have hval : ∀ (j : Nat) t v, Tryz.f3.params[j]? = some t → args[j]? = some v → Value.okWide Tryz.prog W .any base t v := hval0
  have hW' := hW
  obtain ⟨p, q, hA0, hV, rfl, hfz, hnd⟩ := hW
  have hA : DataW.TrodAll enc Tryz.prog W 0 (fun _ => true) true Tryz.f3.params.toList args.toList ds p := hA0
  obtain ⟨rfl, rfl⟩ := trodVars_none hV
  have hlt : ∀ x ∈ p, x.block < W.heap.size := fun x hx => hW'.lt x (by simpa using hx)
  have hA1 := hA
  rw [Tryz.params3] at hA hval
  obtain ⟨v0, v1, v2, d0, d1, d2, p0, p1, p2, rfl, rfl, rfl, h0, h1, h2⟩ := trodAll_three hA
  obtain ⟨x0, hx0⟩ := open27 (hval 0 27 v0 rfl rfl) h0
  obtain ⟨k1, rfl, -, -, -⟩ := open_int Tryz.underlying3 (hval 1 3 v1 rfl rfl) h1
  obtain ⟨k2, rfl, -, -, -⟩ := open_int Tryz.underlying3 (hval 2 3 v2 rfl rfl) h2
  simp only [List.append_nil] at hW'
  refine (law3 hx0 k1 k2).mono fun e W' ⟨he, hb⟩ => ?_
  subst he
  exact ⟨_, rfl, post_later (pa := p0 ++ p1 ++ p2) (pv := []) hW' (fun _ _ _ => trodAll_mk1 (shut_bool Tryz.underlying4 _))
    (fun sp hsp => stays hb (by rw [Tryz.params3]; simp only [List.forall_mem_cons]; exact ⟨readable27, readable3, readable3, fun _ h => by simp at h⟩) hA1 hlt hsp) (fun _ _ => rfl) (by simp) hb (ok_one (by kernel_rfl) rfl (okWide_bool_mk Tryz.underlying4 _))⟩
set_option maxRecDepth 100000
theorem loanOwesF0 : (Rows.loanOwesRow.wf (OpenSpec.ofChange Rows.loanOwesSpec)) = true := by kernel_rfl
theorem loanOwesF3 : (Tryz.f3.params.all (Tryz.prog.readableRec ·)) = true := by kernel_rfl
theorem loanOwesF4 : (namedTie Tryz.prog Rows.loanOwesRow.named Rows.loanOwesSpec.vars) = true := by kernel_rfl
theorem loanOwesF5 : (Rows.loanOwesRow.stops == []) = true := by kernel_rfl
theorem loanOwesF7 : (Rows.loanOwesRow.knobs == []) = true := by kernel_rfl
theorem loanOwesF9 : (Rows.loanOwesRow.inPlace == Tryz.prog.inPlace 3) = true := by kernel_rfl
theorem loanOwesF10 : (Rows.loanOwesRow.unfollowed == Tryz.prog.unfollowed 3) = true := by kernel_rfl
theorem loanOwesF11 : (Rows.loanOwesRow.recurses == Tryz.prog.recurses 3) = true := by kernel_rfl
theorem loanOwesF12 : (Rows.loanOwesRow.named == Tryz.prog.varsNamed 3) = true := by kernel_rfl
theorem loanOwesF13 : (Rows.loanOwesRow.maps == (Tryz.f3.params.toList ++ Rows.loanOwesSpec.plain.varTypes Tryz.prog).any (Tryz.prog.mapsRec ·)) = true := by kernel_rfl
theorem loanOwesF14 : (Rows.loanOwesRow.ifaces == (Tryz.f3.params.toList ++ Rows.loanOwesSpec.plain.varTypes Tryz.prog).any (Tryz.prog.ifacesRec ·)) = true := by kernel_rfl
theorem loanOwesF15 : (Rows.loanOwesRow.mapsOut == Tryz.prog.mapsAmong Tryz.f3.resultTypes.toList) = true := by kernel_rfl
theorem loanOwesF16 : (Rows.loanOwesRow.loops == (Tryz.f3.params.toList ++ Rows.loanOwesSpec.plain.varTypes Tryz.prog).any (Tryz.prog.loopsFrom ·)) = true := by kernel_rfl
theorem loanOwesF17 : (Rows.loanOwesRow.wideKeys == (Tryz.f3.params.toList ++ Rows.loanOwesSpec.plain.varTypes Tryz.prog ++ Tryz.f3.resultTypes.toList).any (Tryz.prog.wideKeysFrom ·)) = true := by kernel_rfl
theorem loanOwesF18 : (Rows.loanOwesSpec.vars.all (Tryz.prog.varReadable ·)) = true := by kernel_rfl
theorem loanOwesF19 : (Tryz.f3.resultTypes.all (fun t => Tryz.prog.readableRec t && decide (t < Tryz.prog.types.size))) = true := by kernel_rfl
theorem loanOwesF20 : (Rows.loanOwesRow.ifacesOut == Tryz.f3.resultTypes.toList.any (Tryz.prog.ifacesRec ·)) = true := by kernel_rfl
theorem loanOwesF21 : (Rows.loanOwesRow.loopsOut == Tryz.f3.resultTypes.toList.any (Tryz.prog.loopsFrom ·)) = true := by kernel_rfl
theorem loanOwesF22 : (Rows.loanOwesRow.plainKeys == Tryz.prog.plainKeys) = true := eqT factPlain (by kernel_rfl)
theorem loanOwesF23 : (Rows.loanOwesRow.shortTexts.isNone) = true := by kernel_rfl
theorem loanOwesF26 : (Rows.loanOwesRow.lifted == Tryz.prog.liftsFinal) = true := by rw [factLifts]; kernel_rfl
theorem loanOwesF27 : (Tryz.prog.make == some Rows.loanOwesRow.make) = true := factMake
theorem loanOwesF28 : (Rows.loanOwesRow.kinds == (if Rows.loanOwesRow.domain.isEmpty then [] else Tryz.f3.params.toList.map fun t => match Tryz.prog.underlying t with | some (.int k) => some k | _ => none)) = true := by kernel_rfl
theorem loanOwesF29 : (Rows.loanOwesRow.pinned == Rows.loanOwesRow.pinnedBy) = true := by kernel_rfl
theorem loanOwesF30 : (Rows.loanOwesRow.veiled == (Tryz.f3.params.toList ++ Rows.loanOwesSpec.plain.varTypes Tryz.prog ++ Tryz.f3.resultTypes.toList).any (Tryz.prog.veiledRec ·)) = true := by kernel_rfl
theorem loanOwesF31 : (Rows.loanOwesRow.veiledFits Tryz.prog Tryz.f3.params.toList (Tryz.f3.params.toList ++ Rows.loanOwesSpec.plain.varTypes Tryz.prog ++ Tryz.f3.resultTypes.toList)) = true := by kernel_rfl
theorem loanOwesJoined : joinedFacts Tryz.prog 3 Tryz.f3 Rows.loanOwesSpec Rows.loanOwesRow = true := (andT (andT (andT (andT (andT (andT (andT (andT (andT (andT (andT (andT (andT (andT (andT (andT (andT (andT (andT (andT (andT (andT (andT (andT (andT (andT (andT (andT (andT (andT (andT loanOwesF0 fact1) fact2) loanOwesF3) loanOwesF4) loanOwesF5) fact6) loanOwesF7) fact8) loanOwesF9) loanOwesF10) loanOwesF11) loanOwesF12) loanOwesF13) loanOwesF14) loanOwesF15) loanOwesF16) loanOwesF17) loanOwesF18) loanOwesF19) loanOwesF20) loanOwesF21) loanOwesF22) loanOwesF23) fact24) fact25) loanOwesF26) loanOwesF27) loanOwesF28) loanOwesF29) loanOwesF30) loanOwesF31)
theorem loanOwes_holds : Rows.LoanOwesSaid :=
  OpenClaim.holds_of_wide 3 Tryz.f3 rfl rfl rfl rfl rfl rfl rfl ⟨rfl, rfl, rfl, rfl, rfl⟩ rfl rfl rfl rfl rfl (by kernel_rfl) Tryz.func3 loanOwesJoined
    (of_decide_eq_true (by kernel_rfl)) (by unfold Func.isWrapper; rw [if_neg (of_decide_eq_false (by kernel_rfl))]; exact ⟨rfl, rfl⟩)
    (fun os started H enc _ => lifted3 os started H enc)
#print axioms loanOwes_holds
end Go.Proofs.YtbceepjjdfpfmaaGreat
