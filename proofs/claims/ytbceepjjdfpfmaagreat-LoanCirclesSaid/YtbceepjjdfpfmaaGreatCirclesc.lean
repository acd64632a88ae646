/- LoanCircles: for every argument the law returns true, and each argument reads as before. No condition. -/
import Derived.Test.YtbceepjjdfpfmaaGreatFacts
import Derived.Test.YtbceepjjdfpfmaaGreatLawC10
import Derived.Test.YtbceepjjdfpfmaaGreatOpen
import Derived.ProofKit
import Derived.OpenShut
import Derived.Deep.Slices
namespace Go.Proofs.YtbceepjjdfpfmaaGreat
open Go.RowKit HandSpec LoanSpec Go.ChangeShapes Go.WideShapes Go.ChangeAt
theorem cap22 {H : Type} {enc : TypeId × Value → H} {w : World} {base : Nat} {spare : Nat → Bool} {held : Bool} {A : Option Addr} {n cap : Nat} {d : DataW H} {p : List MemPlace} (h : DataW.Trod enc Tryz.prog w base spare held 22 (.slice A n cap) d p) : n ≤ cap := by
  obtain ⟨fuel, hf⟩ := h
  rcases Go.Deep.open_slice Tryz.underlying22 hf with ⟨e, -⟩ | ⟨a', len', cap', m, n', D, Pl, e, -, hl, -⟩
  · simp [Value.cells] at e; omega
  · simp [Value.cells] at e
    obtain ⟨-, rfl, rfl⟩ := e
    exact hl
theorem ownKnob_none : ownKnob Tryz.prog.godebug = none := by kernel_rfl
theorem readable22 : Tryz.prog.readableRec 22 = true ∧ 22 < Tryz.prog.types.size := ⟨by kernel_rfl, of_decide_eq_true (by kernel_rfl)⟩
theorem readable48 : Tryz.prog.readableRec 48 = true ∧ 48 < Tryz.prog.types.size := ⟨by kernel_rfl, of_decide_eq_true (by kernel_rfl)⟩
set_option maxRecDepth 100000 in
theorem lifted10 (os : Os) (started : os.Started) (H : Type) (enc : TypeId × Value → H) :
    ReturnsInHanded {} Tryz.checked os 10 .any (Rows.loanCirclesSpec.pre6 enc Tryz.prog Tryz.f10 Rows.loanCirclesRow.domain false) (Rows.loanCirclesSpec.post enc Tryz.prog Tryz.f10 false true false false) := by
  refine returnsInHanded_of_change (C := Tryz.checked) ownKnob_none started (by kernel_rfl) Tryz.func10
    (ChangeSpec.witness6 (enc := enc) (C := Tryz.checked) false ⟨#[], #[.slice none 0 0, .slice none 0 0], []⟩ 8 (by kernel_rfl) (by kernel_rfl) (by kernel_rfl) (by kernel_rfl)) ?_
  intro W base args ds gs before hval0 hW hcnd _
  have hval : ∀ (j : Nat) t v, Tryz.f10.params[j]? = some t → args[j]? = some v → Value.okWide Tryz.prog W .any base t v := hval0
  have hW' := hW
  obtain ⟨p, q, hA0, hV, rfl, hfz, hnd⟩ := hW
  have hA : DataW.TrodAll enc Tryz.prog W 0 (fun _ => true) true Tryz.f10.params.toList args.toList ds p := hA0
  obtain ⟨rfl, rfl⟩ := trodVars_none hV
  have hlt : ∀ x ∈ p, x.block < W.heap.size := fun x hx => hW'.lt x (by simpa using hx)
  have hA1 := hA
  rw [Tryz.params10] at hA hval
  obtain ⟨v0, v1, d0, d1, p0, p1, rfl, rfl, rfl, h0, h1⟩ := trodAll_two hA
  obtain ⟨A0, n0, cap0, m0, g0, rfl, hr0, hl0⟩ := open48 (hval 0 48 v0 rfl rfl) h0
  obtain ⟨A1, n1, cap1, g1, rfl, hr1⟩ := open22 (hval 1 22 v1 rfl rfl) h1
  have hc1 := cap22 h1
  simp only [List.append_nil] at hW'
  refine (law10 hr0 hl0 hr1 hc1).mono fun e W' ⟨he, hb⟩ => ?_
  subst he
  exact ⟨_, rfl, post_later (pa := p0 ++ p1) (pv := []) hW' (fun _ _ _ => trodAll_mk1 (shut_bool Tryz.underlying4 _))
    (fun sp hsp => stays hb (by rw [Tryz.params10]; simp only [List.forall_mem_cons]; exact ⟨readable48, readable22, fun _ h => by simp at h⟩) hA1 hlt hsp) (fun _ _ => rfl) (by simp) hb (ok_one (by kernel_rfl) rfl (okWide_bool_mk Tryz.underlying4 _))⟩
set_option maxRecDepth 100000
theorem loanCirclesF0 : (Rows.loanCirclesRow.wf (OpenSpec.ofChange Rows.loanCirclesSpec)) = true := by kernel_rfl
theorem loanCirclesF3 : (Tryz.f10.params.all (Tryz.prog.readableRec ·)) = true := by kernel_rfl
theorem loanCirclesF4 : (namedTie Tryz.prog Rows.loanCirclesRow.named Rows.loanCirclesSpec.vars) = true := by kernel_rfl
theorem loanCirclesF5 : (Rows.loanCirclesRow.stops == []) = true := by kernel_rfl
theorem loanCirclesF7 : (Rows.loanCirclesRow.knobs == []) = true := by kernel_rfl
theorem loanCirclesF9 : (Rows.loanCirclesRow.inPlace == Tryz.prog.inPlace 10) = true := by kernel_rfl
theorem loanCirclesF10 : (Rows.loanCirclesRow.unfollowed == Tryz.prog.unfollowed 10) = true := by kernel_rfl
theorem loanCirclesF11 : (Rows.loanCirclesRow.recurses == Tryz.prog.recurses 10) = true := by kernel_rfl
theorem loanCirclesF12 : (Rows.loanCirclesRow.named == Tryz.prog.varsNamed 10) = true := by kernel_rfl
theorem loanCirclesF13 : (Rows.loanCirclesRow.maps == (Tryz.f10.params.toList ++ Rows.loanCirclesSpec.plain.varTypes Tryz.prog).any (Tryz.prog.mapsRec ·)) = true := by kernel_rfl
theorem loanCirclesF14 : (Rows.loanCirclesRow.ifaces == (Tryz.f10.params.toList ++ Rows.loanCirclesSpec.plain.varTypes Tryz.prog).any (Tryz.prog.ifacesRec ·)) = true := by kernel_rfl
theorem loanCirclesF15 : (Rows.loanCirclesRow.mapsOut == Tryz.prog.mapsAmong Tryz.f10.resultTypes.toList) = true := by kernel_rfl
theorem loanCirclesF16 : (Rows.loanCirclesRow.loops == (Tryz.f10.params.toList ++ Rows.loanCirclesSpec.plain.varTypes Tryz.prog).any (Tryz.prog.loopsFrom ·)) = true := by kernel_rfl
theorem loanCirclesF17 : (Rows.loanCirclesRow.wideKeys == (Tryz.f10.params.toList ++ Rows.loanCirclesSpec.plain.varTypes Tryz.prog ++ Tryz.f10.resultTypes.toList).any (Tryz.prog.wideKeysFrom ·)) = true := by kernel_rfl
theorem loanCirclesF18 : (Rows.loanCirclesSpec.vars.all (Tryz.prog.varReadable ·)) = true := by kernel_rfl
theorem loanCirclesF19 : (Tryz.f10.resultTypes.all (fun t => Tryz.prog.readableRec t && decide (t < Tryz.prog.types.size))) = true := by kernel_rfl
theorem loanCirclesF20 : (Rows.loanCirclesRow.ifacesOut == Tryz.f10.resultTypes.toList.any (Tryz.prog.ifacesRec ·)) = true := by kernel_rfl
theorem loanCirclesF21 : (Rows.loanCirclesRow.loopsOut == Tryz.f10.resultTypes.toList.any (Tryz.prog.loopsFrom ·)) = true := by kernel_rfl
theorem loanCirclesF22 : (Rows.loanCirclesRow.plainKeys == Tryz.prog.plainKeys) = true := eqT factPlain (by kernel_rfl)
theorem loanCirclesF23 : (Rows.loanCirclesRow.shortTexts.isNone) = true := by kernel_rfl
theorem loanCirclesF26 : (Rows.loanCirclesRow.lifted == Tryz.prog.liftsFinal) = true := by rw [factLifts]; kernel_rfl
theorem loanCirclesF27 : (Tryz.prog.make == some Rows.loanCirclesRow.make) = true := factMake
theorem loanCirclesF28 : (Rows.loanCirclesRow.kinds == (if Rows.loanCirclesRow.domain.isEmpty then [] else Tryz.f10.params.toList.map fun t => match Tryz.prog.underlying t with | some (.int k) => some k | _ => none)) = true := by kernel_rfl
theorem loanCirclesF29 : (Rows.loanCirclesRow.pinned == Rows.loanCirclesRow.pinnedBy) = true := by kernel_rfl
theorem loanCirclesF30 : (Rows.loanCirclesRow.veiled == (Tryz.f10.params.toList ++ Rows.loanCirclesSpec.plain.varTypes Tryz.prog ++ Tryz.f10.resultTypes.toList).any (Tryz.prog.veiledRec ·)) = true := by kernel_rfl
theorem loanCirclesF31 : (Rows.loanCirclesRow.veiledFits Tryz.prog Tryz.f10.params.toList (Tryz.f10.params.toList ++ Rows.loanCirclesSpec.plain.varTypes Tryz.prog ++ Tryz.f10.resultTypes.toList)) = true := by kernel_rfl
theorem loanCirclesJoined : joinedFacts Tryz.prog 10 Tryz.f10 Rows.loanCirclesSpec Rows.loanCirclesRow = true := (andT (andT (andT (andT (andT (andT (andT (andT (andT (andT (andT (andT (andT (andT (andT (andT (andT (andT (andT (andT (andT (andT (andT (andT (andT (andT (andT (andT (andT (andT (andT loanCirclesF0 fact1) fact2) loanCirclesF3) loanCirclesF4) loanCirclesF5) fact6) loanCirclesF7) fact8) loanCirclesF9) loanCirclesF10) loanCirclesF11) loanCirclesF12) loanCirclesF13) loanCirclesF14) loanCirclesF15) loanCirclesF16) loanCirclesF17) loanCirclesF18) loanCirclesF19) loanCirclesF20) loanCirclesF21) loanCirclesF22) loanCirclesF23) fact24) fact25) loanCirclesF26) loanCirclesF27) loanCirclesF28) loanCirclesF29) loanCirclesF30) loanCirclesF31)
theorem loanCircles_holds : Rows.LoanCirclesSaid :=
  OpenClaim.holds_of_wide 10 Tryz.f10 rfl rfl rfl rfl rfl rfl rfl ⟨rfl, rfl, rfl, rfl, rfl⟩ rfl rfl rfl rfl rfl (by kernel_rfl) Tryz.func10 loanCirclesJoined
    (of_decide_eq_true (by kernel_rfl)) (by unfold Func.isWrapper; rw [if_neg (of_decide_eq_false (by kernel_rfl))]; exact ⟨rfl, rfl⟩)
    (fun os started H enc _ => lifted10 os started H enc)
#print axioms loanCircles_holds
end Go.Proofs.YtbceepjjdfpfmaaGreat
