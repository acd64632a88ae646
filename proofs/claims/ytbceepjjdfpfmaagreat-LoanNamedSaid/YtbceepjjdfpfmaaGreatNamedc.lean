/- LoanNamed: for every argument the law returns true, and each argument reads as before. No condition. -/
import Derived.Test.YtbceepjjdfpfmaaGreatFacts
import Derived.Test.YtbceepjjdfpfmaaGreatLawN
import Derived.Test.YtbceepjjdfpfmaaGreatOpen
import Derived.ProofKit
import Derived.OpenShut
namespace Go.Proofs.YtbceepjjdfpfmaaGreat
open Go.RowKit HandSpec LoanSpec Go.ChangeShapes Go.WideShapes Go.ChangeAt
theorem ownKnob_none : ownKnob Tryz.prog.godebug = none := by kernel_rfl
theorem readable54 : Tryz.prog.readableRec 54 = true ∧ 54 < Tryz.prog.types.size := ⟨by kernel_rfl, of_decide_eq_true (by kernel_rfl)⟩
set_option maxRecDepth 100000 in
theorem lifted12 (os : Os) (started : os.Started) (H : Type) (enc : TypeId × Value → H) :
    ReturnsInHanded {} Tryz.checked os 12 .any (Rows.loanNamedSpec.pre6 enc Tryz.prog Tryz.f12 Rows.loanNamedRow.domain false) (Rows.loanNamedSpec.post enc Tryz.prog Tryz.f12 false true false false) := by
  refine returnsInHanded_of_change (C := Tryz.checked) ownKnob_none started (by kernel_rfl) Tryz.func12
    (ChangeSpec.witness6 (enc := enc) (C := Tryz.checked) false ⟨#[], #[.slice none 0 0, .slice none 0 0], []⟩ 8 (by kernel_rfl) (by kernel_rfl) (by kernel_rfl) (by kernel_rfl)) ?_
  intro W base args ds gs before hval0 hW hcnd _
  have hval : ∀ (j : Nat) t v, Tryz.f12.params[j]? = some t → args[j]? = some v → Value.okWide Tryz.prog W .any base t v := hval0
  have hW' := hW
  obtain ⟨p, q, hA0, hV, rfl, hfz, hnd⟩ := hW
  have hA : DataW.TrodAll enc Tryz.prog W 0 (fun _ => true) true Tryz.f12.params.toList args.toList ds p := hA0
  obtain ⟨rfl, rfl⟩ := trodVars_none hV
  have hlt : ∀ x ∈ p, x.block < W.heap.size := fun x hx => hW'.lt x (by simpa using hx)
  have hA1 := hA
  rw [Tryz.params12] at hA hval
  obtain ⟨v0, v1, d0, d1, p0, p1, rfl, rfl, rfl, h0, h1⟩ := trodAll_two hA
  obtain ⟨A0, n0, cap0, rfl, hb0⟩ := open54 (hval 0 54 v0 rfl rfl) h0
  obtain ⟨A1, n1, cap1, rfl, hb1⟩ := open54 (hval 1 54 v1 rfl rfl) h1
  simp only [List.append_nil] at hW'
  refine (law12 hb0 hb1).mono fun e W' ⟨he, hb⟩ => ?_
  subst he
  exact ⟨_, rfl, post_later (pa := p0 ++ p1) (pv := []) hW' (fun _ _ _ => trodAll_mk1 (shut_bool Tryz.underlying4 _))
    (fun sp hsp => stays hb (by rw [Tryz.params12]; simp only [List.forall_mem_cons]; exact ⟨readable54, readable54, fun _ h => by simp at h⟩) hA1 hlt hsp) (fun _ _ => rfl) (by simp) hb (ok_one (by kernel_rfl) rfl (okWide_bool_mk Tryz.underlying4 _))⟩
set_option maxRecDepth 100000
theorem loanNamedF0 : (Rows.loanNamedRow.wf (OpenSpec.ofChange Rows.loanNamedSpec)) = true := by kernel_rfl
theorem loanNamedF3 : (Tryz.f12.params.all (Tryz.prog.readableRec ·)) = true := by kernel_rfl
theorem loanNamedF4 : (namedTie Tryz.prog Rows.loanNamedRow.named Rows.loanNamedSpec.vars) = true := by kernel_rfl
theorem loanNamedF5 : (Rows.loanNamedRow.stops == []) = true := by kernel_rfl
theorem loanNamedF7 : (Rows.loanNamedRow.knobs == []) = true := by kernel_rfl
theorem loanNamedF9 : (Rows.loanNamedRow.inPlace == Tryz.prog.inPlace 12) = true := by kernel_rfl
theorem loanNamedF10 : (Rows.loanNamedRow.unfollowed == Tryz.prog.unfollowed 12) = true := by kernel_rfl
theorem loanNamedF11 : (Rows.loanNamedRow.recurses == Tryz.prog.recurses 12) = true := by kernel_rfl
theorem loanNamedF12 : (Rows.loanNamedRow.named == Tryz.prog.varsNamed 12) = true := by kernel_rfl
theorem loanNamedF13 : (Rows.loanNamedRow.maps == (Tryz.f12.params.toList ++ Rows.loanNamedSpec.plain.varTypes Tryz.prog).any (Tryz.prog.mapsRec ·)) = true := by kernel_rfl
theorem loanNamedF14 : (Rows.loanNamedRow.ifaces == (Tryz.f12.params.toList ++ Rows.loanNamedSpec.plain.varTypes Tryz.prog).any (Tryz.prog.ifacesRec ·)) = true := by kernel_rfl
theorem loanNamedF15 : (Rows.loanNamedRow.mapsOut == Tryz.prog.mapsAmong Tryz.f12.resultTypes.toList) = true := by kernel_rfl
theorem loanNamedF16 : (Rows.loanNamedRow.loops == (Tryz.f12.params.toList ++ Rows.loanNamedSpec.plain.varTypes Tryz.prog).any (Tryz.prog.loopsFrom ·)) = true := by kernel_rfl
theorem loanNamedF17 : (Rows.loanNamedRow.wideKeys == (Tryz.f12.params.toList ++ Rows.loanNamedSpec.plain.varTypes Tryz.prog ++ Tryz.f12.resultTypes.toList).any (Tryz.prog.wideKeysFrom ·)) = true := by kernel_rfl
theorem loanNamedF18 : (Rows.loanNamedSpec.vars.all (Tryz.prog.varReadable ·)) = true := by kernel_rfl
theorem loanNamedF19 : (Tryz.f12.resultTypes.all (fun t => Tryz.prog.readableRec t && decide (t < Tryz.prog.types.size))) = true := by kernel_rfl
theorem loanNamedF20 : (Rows.loanNamedRow.ifacesOut == Tryz.f12.resultTypes.toList.any (Tryz.prog.ifacesRec ·)) = true := by kernel_rfl
theorem loanNamedF21 : (Rows.loanNamedRow.loopsOut == Tryz.f12.resultTypes.toList.any (Tryz.prog.loopsFrom ·)) = true := by kernel_rfl
theorem loanNamedF22 : (Rows.loanNamedRow.plainKeys == Tryz.prog.plainKeys) = true := eqT factPlain (by kernel_rfl)
theorem loanNamedF23 : (Rows.loanNamedRow.shortTexts.isNone) = true := by kernel_rfl
theorem loanNamedF26 : (Rows.loanNamedRow.lifted == Tryz.prog.liftsFinal) = true := by rw [factLifts]; kernel_rfl
theorem loanNamedF27 : (Tryz.prog.make == some Rows.loanNamedRow.make) = true := factMake
theorem loanNamedF28 : (Rows.loanNamedRow.kinds == (if Rows.loanNamedRow.domain.isEmpty then [] else Tryz.f12.params.toList.map fun t => match Tryz.prog.underlying t with | some (.int k) => some k | _ => none)) = true := by kernel_rfl
theorem loanNamedF29 : (Rows.loanNamedRow.pinned == Rows.loanNamedRow.pinnedBy) = true := by kernel_rfl
theorem loanNamedF30 : (Rows.loanNamedRow.veiled == (Tryz.f12.params.toList ++ Rows.loanNamedSpec.plain.varTypes Tryz.prog ++ Tryz.f12.resultTypes.toList).any (Tryz.prog.veiledRec ·)) = true := by kernel_rfl
theorem loanNamedF31 : (Rows.loanNamedRow.veiledFits Tryz.prog Tryz.f12.params.toList (Tryz.f12.params.toList ++ Rows.loanNamedSpec.plain.varTypes Tryz.prog ++ Tryz.f12.resultTypes.toList)) = true := by kernel_rfl
theorem loanNamedJoined : joinedFacts Tryz.prog 12 Tryz.f12 Rows.loanNamedSpec Rows.loanNamedRow = true := (andT (andT (andT (andT (andT (andT (andT (andT (andT (andT (andT (andT (andT (andT (andT (andT (andT (andT (andT (andT (andT (andT (andT (andT (andT (andT (andT (andT (andT (andT (andT loanNamedF0 fact1) fact2) loanNamedF3) loanNamedF4) loanNamedF5) fact6) loanNamedF7) fact8) loanNamedF9) loanNamedF10) loanNamedF11) loanNamedF12) loanNamedF13) loanNamedF14) loanNamedF15) loanNamedF16) loanNamedF17) loanNamedF18) loanNamedF19) loanNamedF20) loanNamedF21) loanNamedF22) loanNamedF23) fact24) fact25) loanNamedF26) loanNamedF27) loanNamedF28) loanNamedF29) loanNamedF30) loanNamedF31)
theorem loanNamed_holds : Rows.LoanNamedSaid :=
  OpenClaim.holds_of_wide 12 Tryz.f12 rfl rfl rfl rfl rfl rfl rfl ⟨rfl, rfl, rfl, rfl, rfl⟩ rfl rfl rfl rfl rfl (by kernel_rfl) Tryz.func12 loanNamedJoined
    (of_decide_eq_true (by kernel_rfl)) (by unfold Func.isWrapper; rw [if_neg (of_decide_eq_false (by kernel_rfl))]; exact ⟨rfl, rfl⟩)
    (fun os started H enc _ => lifted12 os started H enc)
#print axioms loanNamed_holds
end Go.Proofs.YtbceepjjdfpfmaaGreat
