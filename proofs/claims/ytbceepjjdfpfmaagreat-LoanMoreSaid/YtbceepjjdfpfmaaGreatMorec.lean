/- LoanMore: for every argument the law returns true, and each argument reads as before. No condition. -/
import Derived.Test.YtbceepjjdfpfmaaGreatFacts
import Derived.Test.YtbceepjjdfpfmaaGreatLawO
import Derived.Test.YtbceepjjdfpfmaaGreatByt
import Derived.ProofKit
import Derived.OpenShut
namespace Go.Proofs.YtbceepjjdfpfmaaGreat
open Go.RowKit HandSpec LoanSpec Go.ChangeShapes Go.WideShapes Go.ChangeAt
theorem ownKnob_none : ownKnob Tryz.prog.godebug = none := by kernel_rfl
theorem readable5 : Tryz.prog.readableRec 5 = true ∧ 5 < Tryz.prog.types.size := ⟨by kernel_rfl, of_decide_eq_true (by kernel_rfl)⟩
theorem readable54 : Tryz.prog.readableRec 54 = true ∧ 54 < Tryz.prog.types.size := ⟨by kernel_rfl, of_decide_eq_true (by kernel_rfl)⟩
set_option maxRecDepth 100000 in
theorem lifted14 (os : Os) (started : os.Started) (H : Type) (enc : TypeId × Value → H) :
    ReturnsInHanded {} Tryz.checked os 14 .any (Rows.loanMoreSpec.pre6 enc Tryz.prog Tryz.f14 Rows.loanMoreRow.domain false) (Rows.loanMoreSpec.post enc Tryz.prog Tryz.f14 false true false false) := by
  refine returnsInHanded_of_change (C := Tryz.checked) ownKnob_none started (by kernel_rfl) Tryz.func14
    (ChangeSpec.witness6 (enc := enc) (C := Tryz.checked) false ⟨#[], #[.slice none 0 0, .int .u8 0, .int .u8 0, .int .u8 0], []⟩ 8 (by kernel_rfl) (by kernel_rfl) (by kernel_rfl) (by kernel_rfl)) ?_
  intro W base args ds gs before hval0 hW hcnd _
  have hval : ∀ (j : Nat) t v, Tryz.f14.params[j]? = some t → args[j]? = some v → Value.okWide Tryz.prog W .any base t v := hval0
  have hW' := hW
  obtain ⟨p, q, hA0, hV, rfl, hfz, hnd⟩ := hW
  have hA : DataW.TrodAll enc Tryz.prog W 0 (fun _ => true) true Tryz.f14.params.toList args.toList ds p := hA0
  obtain ⟨rfl, rfl⟩ := trodVars_none hV
  have hlt : ∀ x ∈ p, x.block < W.heap.size := fun x hx => hW'.lt x (by simpa using hx)
  have hA1 := hA
  rw [Tryz.params14] at hA hval
  obtain ⟨v0, v1, v2, v3, d0, d1, d2, d3, p0, p1, p2, p3, rfl, rfl, rfl, h0, h1, h2, h3⟩ := trodAll_four hA
  obtain ⟨A0, n0, cap0, rfl, hb0⟩ := open54 (hval 0 54 v0 rfl rfl) h0
  obtain ⟨k1, rfl, -, -, hk1⟩ := open_int Tryz.underlying5 (hval 1 5 v1 rfl rfl) h1
  obtain ⟨j1, rfl, hj1⟩ := u8_nat hk1
  obtain ⟨k2, rfl, -, -, hk2⟩ := open_int Tryz.underlying5 (hval 2 5 v2 rfl rfl) h2
  obtain ⟨j2, rfl, hj2⟩ := u8_nat hk2
  obtain ⟨k3, rfl, -, -, hk3⟩ := open_int Tryz.underlying5 (hval 3 5 v3 rfl rfl) h3
  obtain ⟨j3, rfl, hj3⟩ := u8_nat hk3
  simp only [List.append_nil] at hW'
  refine (law14 hb0 hj1 hj2 hj3).mono fun e W' ⟨he, hb⟩ => ?_
  subst he
  exact ⟨_, rfl, post_later (pa := p0 ++ p1 ++ p2 ++ p3) (pv := []) hW' (fun _ _ _ => trodAll_mk1 (shut_bool Tryz.underlying4 _))
    (fun sp hsp => stays hb (by rw [Tryz.params14]; simp only [List.forall_mem_cons]; exact ⟨readable54, readable5, readable5, readable5, fun _ h => by simp at h⟩) hA1 hlt hsp) (fun _ _ => rfl) (by simp) hb (ok_one (by kernel_rfl) rfl (okWide_bool_mk Tryz.underlying4 _))⟩
set_option maxRecDepth 100000
theorem loanMoreF0 : (Rows.loanMoreRow.wf (OpenSpec.ofChange Rows.loanMoreSpec)) = true := by kernel_rfl
theorem loanMoreF3 : (Tryz.f14.params.all (Tryz.prog.readableRec ·)) = true := by kernel_rfl
theorem loanMoreF4 : (namedTie Tryz.prog Rows.loanMoreRow.named Rows.loanMoreSpec.vars) = true := by kernel_rfl
theorem loanMoreF5 : (Rows.loanMoreRow.stops == []) = true := by kernel_rfl
theorem loanMoreF7 : (Rows.loanMoreRow.knobs == []) = true := by kernel_rfl
theorem loanMoreF9 : (Rows.loanMoreRow.inPlace == Tryz.prog.inPlace 14) = true := by kernel_rfl
theorem loanMoreF10 : (Rows.loanMoreRow.unfollowed == Tryz.prog.unfollowed 14) = true := by kernel_rfl
theorem loanMoreF11 : (Rows.loanMoreRow.recurses == Tryz.prog.recurses 14) = true := by kernel_rfl
theorem loanMoreF12 : (Rows.loanMoreRow.named == Tryz.prog.varsNamed 14) = true := by kernel_rfl
theorem loanMoreF13 : (Rows.loanMoreRow.maps == (Tryz.f14.params.toList ++ Rows.loanMoreSpec.plain.varTypes Tryz.prog).any (Tryz.prog.mapsRec ·)) = true := by kernel_rfl
theorem loanMoreF14 : (Rows.loanMoreRow.ifaces == (Tryz.f14.params.toList ++ Rows.loanMoreSpec.plain.varTypes Tryz.prog).any (Tryz.prog.ifacesRec ·)) = true := by kernel_rfl
theorem loanMoreF15 : (Rows.loanMoreRow.mapsOut == Tryz.prog.mapsAmong Tryz.f14.resultTypes.toList) = true := by kernel_rfl
theorem loanMoreF16 : (Rows.loanMoreRow.loops == (Tryz.f14.params.toList ++ Rows.loanMoreSpec.plain.varTypes Tryz.prog).any (Tryz.prog.loopsFrom ·)) = true := by kernel_rfl
theorem loanMoreF17 : (Rows.loanMoreRow.wideKeys == (Tryz.f14.params.toList ++ Rows.loanMoreSpec.plain.varTypes Tryz.prog ++ Tryz.f14.resultTypes.toList).any (Tryz.prog.wideKeysFrom ·)) = true := by kernel_rfl
theorem loanMoreF18 : (Rows.loanMoreSpec.vars.all (Tryz.prog.varReadable ·)) = true := by kernel_rfl
theorem loanMoreF19 : (Tryz.f14.resultTypes.all (fun t => Tryz.prog.readableRec t && decide (t < Tryz.prog.types.size))) = true := by kernel_rfl
theorem loanMoreF20 : (Rows.loanMoreRow.ifacesOut == Tryz.f14.resultTypes.toList.any (Tryz.prog.ifacesRec ·)) = true := by kernel_rfl
theorem loanMoreF21 : (Rows.loanMoreRow.loopsOut == Tryz.f14.resultTypes.toList.any (Tryz.prog.loopsFrom ·)) = true := by kernel_rfl
theorem loanMoreF22 : (Rows.loanMoreRow.plainKeys == Tryz.prog.plainKeys) = true := eqT factPlain (by kernel_rfl)
theorem loanMoreF23 : (Rows.loanMoreRow.shortTexts.isNone) = true := by kernel_rfl
theorem loanMoreF26 : (Rows.loanMoreRow.lifted == Tryz.prog.liftsFinal) = true := by rw [factLifts]; kernel_rfl
theorem loanMoreF27 : (Tryz.prog.make == some Rows.loanMoreRow.make) = true := factMake
theorem loanMoreF28 : (Rows.loanMoreRow.kinds == (if Rows.loanMoreRow.domain.isEmpty then [] else Tryz.f14.params.toList.map fun t => match Tryz.prog.underlying t with | some (.int k) => some k | _ => none)) = true := by kernel_rfl
theorem loanMoreF29 : (Rows.loanMoreRow.pinned == Rows.loanMoreRow.pinnedBy) = true := by kernel_rfl
theorem loanMoreF30 : (Rows.loanMoreRow.veiled == (Tryz.f14.params.toList ++ Rows.loanMoreSpec.plain.varTypes Tryz.prog ++ Tryz.f14.resultTypes.toList).any (Tryz.prog.veiledRec ·)) = true := by kernel_rfl
theorem loanMoreF31 : (Rows.loanMoreRow.veiledFits Tryz.prog Tryz.f14.params.toList (Tryz.f14.params.toList ++ Rows.loanMoreSpec.plain.varTypes Tryz.prog ++ Tryz.f14.resultTypes.toList)) = true := by kernel_rfl
theorem loanMoreJoined : joinedFacts Tryz.prog 14 Tryz.f14 Rows.loanMoreSpec Rows.loanMoreRow = true := (andT (andT (andT (andT (andT (andT (andT (andT (andT (andT (andT (andT (andT (andT (andT (andT (andT (andT (andT (andT (andT (andT (andT (andT (andT (andT (andT (andT (andT (andT (andT loanMoreF0 fact1) fact2) loanMoreF3) loanMoreF4) loanMoreF5) fact6) loanMoreF7) fact8) loanMoreF9) loanMoreF10) loanMoreF11) loanMoreF12) loanMoreF13) loanMoreF14) loanMoreF15) loanMoreF16) loanMoreF17) loanMoreF18) loanMoreF19) loanMoreF20) loanMoreF21) loanMoreF22) loanMoreF23) fact24) fact25) loanMoreF26) loanMoreF27) loanMoreF28) loanMoreF29) loanMoreF30) loanMoreF31)
theorem loanMore_holds : Rows.LoanMoreSaid :=
  OpenClaim.holds_of_wide 14 Tryz.f14 rfl rfl rfl rfl rfl rfl rfl ⟨rfl, rfl, rfl, rfl, rfl⟩ rfl rfl rfl rfl rfl (by kernel_rfl) Tryz.func14 loanMoreJoined
    (of_decide_eq_true (by kernel_rfl)) (by unfold Func.isWrapper; rw [if_neg (of_decide_eq_false (by kernel_rfl))]; exact ⟨rfl, rfl⟩)
    (fun os started H enc _ => lifted14 os started H enc)
#print axioms loanMore_holds
end Go.Proofs.YtbceepjjdfpfmaaGreat
