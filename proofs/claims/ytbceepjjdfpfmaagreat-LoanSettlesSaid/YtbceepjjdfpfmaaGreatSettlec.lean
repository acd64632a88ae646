/- LoanSettles: for every argument the law returns true, and each argument reads as before. No condition. -/
import Derived.Test.YtbceepjjdfpfmaaGreatFacts
import Derived.Test.YtbceepjjdfpfmaaGreatLawJ
import Derived.Test.YtbceepjjdfpfmaaGreatOpen
import Derived.ProofKit
import Derived.OpenShut
namespace Go.Proofs.YtbceepjjdfpfmaaGreat
open Go.RowKit HandSpec LoanSpec Go.ChangeShapes Go.WideShapes Go.ChangeAt
theorem ownKnob_none : ownKnob Tryz.prog.godebug = none := by kernel_rfl
theorem readable25 : Tryz.prog.readableRec 25 = true ∧ 25 < Tryz.prog.types.size := ⟨by kernel_rfl, of_decide_eq_true (by kernel_rfl)⟩
theorem readable39 : Tryz.prog.readableRec 39 = true ∧ 39 < Tryz.prog.types.size := ⟨by kernel_rfl, of_decide_eq_true (by kernel_rfl)⟩
theorem readable48 : Tryz.prog.readableRec 48 = true ∧ 48 < Tryz.prog.types.size := ⟨by kernel_rfl, of_decide_eq_true (by kernel_rfl)⟩
set_option maxRecDepth 100000 in
theorem lifted8 (os : Os) (started : os.Started) (H : Type) (enc : TypeId × Value → H) :
    ReturnsInHanded {} Tryz.checked os 8 .any (Rows.loanSettlesSpec.pre6 enc Tryz.prog Tryz.f8 Rows.loanSettlesRow.domain false) (Rows.loanSettlesSpec.post enc Tryz.prog Tryz.f8 false true false false) := by
  refine returnsInHanded_of_change (C := Tryz.checked) ownKnob_none started (by kernel_rfl) Tryz.func8
    (ChangeSpec.witness6 (enc := enc) (C := Tryz.checked) false ⟨#[], #[.slice none 0 0, .slice none 0 0, .slice none 0 0], []⟩ 8 (by kernel_rfl) (by kernel_rfl) (by kernel_rfl) (by kernel_rfl)) ?_
  intro W base args ds gs before hval0 hW hcnd _
  have hval : ∀ (j : Nat) t v, Tryz.f8.params[j]? = some t → args[j]? = some v → Value.okWide Tryz.prog W .any base t v := hval0
  have hW' := hW
  obtain ⟨p, q, hA0, hV, rfl, hfz, hnd⟩ := hW
  have hA : DataW.TrodAll enc Tryz.prog W 0 (fun _ => true) true Tryz.f8.params.toList args.toList ds p := hA0
  obtain ⟨rfl, rfl⟩ := trodVars_none hV
  have hlt : ∀ x ∈ p, x.block < W.heap.size := fun x hx => hW'.lt x (by simpa using hx)
  have hA1 := hA
  rw [Tryz.params8] at hA hval
  obtain ⟨v0, v1, v2, d0, d1, d2, p0, p1, p2, rfl, rfl, rfl, h0, h1, h2⟩ := trodAll_three hA
  obtain ⟨A0, n0, cap0, m0, g0, rfl, hr0, hl0⟩ := open48 (hval 0 48 v0 rfl rfl) h0
  obtain ⟨A1, n1, cap1, g1, rfl, hr1⟩ := open25 (hval 1 25 v1 rfl rfl) h1
  obtain ⟨A2, n2, cap2, m2, g2, rfl, hr2, hl2⟩ := open39 (hval 2 39 v2 rfl rfl) h2
  simp only [List.append_nil] at hW'
  refine (law8 hr0 hl0 hr1 hr2 hl2).mono fun e W' ⟨he, hb⟩ => ?_
  subst he
  exact ⟨_, rfl, post_later (pa := p0 ++ p1 ++ p2) (pv := []) hW' (fun _ _ _ => trodAll_mk1 (shut_bool Tryz.underlying4 _))
    (fun sp hsp => stays hb (by rw [Tryz.params8]; simp only [List.forall_mem_cons]; exact ⟨readable48, readable25, readable39, fun _ h => by simp at h⟩) hA1 hlt hsp) (fun _ _ => rfl) (by simp) hb (ok_one (by kernel_rfl) rfl (okWide_bool_mk Tryz.underlying4 _))⟩
set_option maxRecDepth 100000
theorem loanSettlesF0 : (Rows.loanSettlesRow.wf (OpenSpec.ofChange Rows.loanSettlesSpec)) = true := by kernel_rfl
theorem loanSettlesF3 : (Tryz.f8.params.all (Tryz.prog.readableRec ·)) = true := by kernel_rfl
theorem loanSettlesF4 : (namedTie Tryz.prog Rows.loanSettlesRow.named Rows.loanSettlesSpec.vars) = true := by kernel_rfl
theorem loanSettlesF5 : (Rows.loanSettlesRow.stops == []) = true := by kernel_rfl
theorem loanSettlesF7 : (Rows.loanSettlesRow.knobs == []) = true := by kernel_rfl
theorem loanSettlesF9 : (Rows.loanSettlesRow.inPlace == Tryz.prog.inPlace 8) = true := by kernel_rfl
theorem loanSettlesF10 : (Rows.loanSettlesRow.unfollowed == Tryz.prog.unfollowed 8) = true := by kernel_rfl
theorem loanSettlesF11 : (Rows.loanSettlesRow.recurses == Tryz.prog.recurses 8) = true := by kernel_rfl
theorem loanSettlesF12 : (Rows.loanSettlesRow.named == Tryz.prog.varsNamed 8) = true := by kernel_rfl
theorem loanSettlesF13 : (Rows.loanSettlesRow.maps == (Tryz.f8.params.toList ++ Rows.loanSettlesSpec.plain.varTypes Tryz.prog).any (Tryz.prog.mapsRec ·)) = true := by kernel_rfl
theorem loanSettlesF14 : (Rows.loanSettlesRow.ifaces == (Tryz.f8.params.toList ++ Rows.loanSettlesSpec.plain.varTypes Tryz.prog).any (Tryz.prog.ifacesRec ·)) = true := by kernel_rfl
theorem loanSettlesF15 : (Rows.loanSettlesRow.mapsOut == Tryz.prog.mapsAmong Tryz.f8.resultTypes.toList) = true := by kernel_rfl
theorem loanSettlesF16 : (Rows.loanSettlesRow.loops == (Tryz.f8.params.toList ++ Rows.loanSettlesSpec.plain.varTypes Tryz.prog).any (Tryz.prog.loopsFrom ·)) = true := by kernel_rfl
theorem loanSettlesF17 : (Rows.loanSettlesRow.wideKeys == (Tryz.f8.params.toList ++ Rows.loanSettlesSpec.plain.varTypes Tryz.prog ++ Tryz.f8.resultTypes.toList).any (Tryz.prog.wideKeysFrom ·)) = true := by kernel_rfl
theorem loanSettlesF18 : (Rows.loanSettlesSpec.vars.all (Tryz.prog.varReadable ·)) = true := by kernel_rfl
theorem loanSettlesF19 : (Tryz.f8.resultTypes.all (fun t => Tryz.prog.readableRec t && decide (t < Tryz.prog.types.size))) = true := by kernel_rfl
theorem loanSettlesF20 : (Rows.loanSettlesRow.ifacesOut == Tryz.f8.resultTypes.toList.any (Tryz.prog.ifacesRec ·)) = true := by kernel_rfl
theorem loanSettlesF21 : (Rows.loanSettlesRow.loopsOut == Tryz.f8.resultTypes.toList.any (Tryz.prog.loopsFrom ·)) = true := by kernel_rfl
theorem loanSettlesF22 : (Rows.loanSettlesRow.plainKeys == Tryz.prog.plainKeys) = true := eqT factPlain (by kernel_rfl)
theorem loanSettlesF23 : (Rows.loanSettlesRow.shortTexts.isNone) = true := by kernel_rfl
theorem loanSettlesF26 : (Rows.loanSettlesRow.lifted == Tryz.prog.liftsFinal) = true := by rw [factLifts]; kernel_rfl
theorem loanSettlesF27 : (Tryz.prog.make == some Rows.loanSettlesRow.make) = true := factMake
theorem loanSettlesF28 : (Rows.loanSettlesRow.kinds == (if Rows.loanSettlesRow.domain.isEmpty then [] else Tryz.f8.params.toList.map fun t => match Tryz.prog.underlying t with | some (.int k) => some k | _ => none)) = true := by kernel_rfl
theorem loanSettlesF29 : (Rows.loanSettlesRow.pinned == Rows.loanSettlesRow.pinnedBy) = true := by kernel_rfl
theorem loanSettlesF30 : (Rows.loanSettlesRow.veiled == (Tryz.f8.params.toList ++ Rows.loanSettlesSpec.plain.varTypes Tryz.prog ++ Tryz.f8.resultTypes.toList).any (Tryz.prog.veiledRec ·)) = true := by kernel_rfl
theorem loanSettlesF31 : (Rows.loanSettlesRow.veiledFits Tryz.prog Tryz.f8.params.toList (Tryz.f8.params.toList ++ Rows.loanSettlesSpec.plain.varTypes Tryz.prog ++ Tryz.f8.resultTypes.toList)) = true := by kernel_rfl
theorem loanSettlesJoined : joinedFacts Tryz.prog 8 Tryz.f8 Rows.loanSettlesSpec Rows.loanSettlesRow = true := (andT (andT (andT (andT (andT (andT (andT (andT (andT (andT (andT (andT (andT (andT (andT (andT (andT (andT (andT (andT (andT (andT (andT (andT (andT (andT (andT (andT (andT (andT (andT loanSettlesF0 fact1) fact2) loanSettlesF3) loanSettlesF4) loanSettlesF5) fact6) loanSettlesF7) fact8) loanSettlesF9) loanSettlesF10) loanSettlesF11) loanSettlesF12) loanSettlesF13) loanSettlesF14) loanSettlesF15) loanSettlesF16) loanSettlesF17) loanSettlesF18) loanSettlesF19) loanSettlesF20) loanSettlesF21) loanSettlesF22) loanSettlesF23) fact24) fact25) loanSettlesF26) loanSettlesF27) loanSettlesF28) loanSettlesF29) loanSettlesF30) loanSettlesF31)
theorem loanSettles_holds : Rows.LoanSettlesSaid :=
  OpenClaim.holds_of_wide 8 Tryz.f8 rfl rfl rfl rfl rfl rfl rfl ⟨rfl, rfl, rfl, rfl, rfl⟩ rfl rfl rfl rfl rfl (by kernel_rfl) Tryz.func8 loanSettlesJoined
    (of_decide_eq_true (by kernel_rfl)) (by unfold Func.isWrapper; rw [if_neg (of_decide_eq_false (by kernel_rfl))]; exact ⟨rfl, rfl⟩)
    (fun os started H enc _ => lifted8 os started H enc)
#print axioms loanSettles_holds
end Go.Proofs.YtbceepjjdfpfmaaGreat
