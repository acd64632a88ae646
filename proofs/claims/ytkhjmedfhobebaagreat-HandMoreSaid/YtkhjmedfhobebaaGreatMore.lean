/- HandMore: for every argument the law returns true, and each argument reads as before. No condition. -/
import Derived.Test.YtkhjmedfhobebaaGreatFacts
import Derived.Test.YtkhjmedfhobebaaGreatLawO
import Derived.Test.YtkhjmedfhobebaaGreatOpen
import Derived.ProofKit
import Derived.OpenShut
namespace Go.Proofs.YtkhjmedfhobebaaGreat
open Go.RowKit HandSpec Go.ChangeShapes Go.WideShapes Go.ChangeAt
theorem ownKnob_none : ownKnob Tryz.prog.godebug = none := by kernel_rfl
theorem readable5 : Tryz.prog.readableRec 5 = true ∧ 5 < Tryz.prog.types.size := ⟨by kernel_rfl, of_decide_eq_true (by kernel_rfl)⟩
theorem readable99 : Tryz.prog.readableRec 99 = true ∧ 99 < Tryz.prog.types.size := ⟨by kernel_rfl, of_decide_eq_true (by kernel_rfl)⟩
set_option maxRecDepth 100000 in
theorem lifted14 (os : Os) (started : os.Started) (H : Type) (enc : TypeId × Value → H) :
    ReturnsInHanded {} Tryz.checked os 14 .any (Rows.handMoreSpec.pre6 enc Tryz.prog Tryz.f14 Rows.handMoreRow.domain false) (Rows.handMoreSpec.post enc Tryz.prog Tryz.f14 false true false false) := by
  refine returnsInHanded_of_change (C := Tryz.checked) ownKnob_none started (by kernel_rfl) Tryz.func14
    (ChangeSpec.witness6 (enc := enc) (C := Tryz.checked) false ⟨#[], #[.slice none 0 0, .int .u8 0, .int .u8 0], []⟩ 8 (by kernel_rfl) (by kernel_rfl) (by kernel_rfl) (by kernel_rfl)) ?_
  intro W base args ds gs before hval0 hW hcnd _
  have hval : ∀ (j : Nat) t v, Tryz.f14.params[j]? = some t → args[j]? = some v → Value.okWide Tryz.prog W .any base t v := hval0
  have hW' := hW
  obtain ⟨p, q, hA0, hV, rfl, hfz, hnd⟩ := hW
  have hA : DataW.TrodAll enc Tryz.prog W 0 (fun _ => true) true Tryz.f14.params.toList args.toList ds p := hA0
  obtain ⟨rfl, rfl⟩ := trodVars_none hV
  have hlt : ∀ x ∈ p, x.block < W.heap.size := fun x hx => hW'.lt x (by simpa using hx)
  have hA1 := hA
  rw [Tryz.params14] at hA hval
  obtain ⟨v0, v1, v2, d0, d1, d2, p0, p1, p2, rfl, rfl, rfl, h0, h1, h2⟩ := trodAll_three hA
  obtain ⟨A0, n0, cap0, rfl, hb0⟩ := open99 (hval 0 99 v0 rfl rfl) h0
  obtain ⟨k1, rfl, -, -, hk1⟩ := open_int Tryz.underlying5 (hval 1 5 v1 rfl rfl) h1
  obtain ⟨j1, rfl, hj1⟩ := u8_nat hk1
  obtain ⟨k2, rfl, -, -, hk2⟩ := open_int Tryz.underlying5 (hval 2 5 v2 rfl rfl) h2
  obtain ⟨j2, rfl, hj2⟩ := u8_nat hk2
  simp only [List.append_nil] at hW'
  refine (law14 hb0 hj1 hj2).mono fun e W' ⟨he, hb⟩ => ?_
  subst he
  exact ⟨_, rfl, post_later (pa := p0 ++ p1 ++ p2) (pv := []) hW' (fun _ _ _ => trodAll_mk1 (shut_bool Tryz.underlying4 _))
    (fun sp hsp => stays hb (by rw [Tryz.params14]; simp only [List.forall_mem_cons]; exact ⟨readable99, readable5, readable5, fun _ h => by simp at h⟩) hA1 hlt hsp) (fun _ _ => rfl) (by simp) hb (ok_one (by kernel_rfl) rfl (okWide_bool_mk Tryz.underlying4 _))⟩
set_option maxRecDepth 100000
theorem handMoreF0 : (Rows.handMoreRow.wf (OpenSpec.ofChange Rows.handMoreSpec)) = true := by kernel_rfl
theorem handMoreF3 : (Tryz.f14.params.all (Tryz.prog.readableRec ·)) = true := by kernel_rfl
theorem handMoreF4 : (namedTie Tryz.prog Rows.handMoreRow.named Rows.handMoreSpec.vars) = true := by kernel_rfl
theorem handMoreF5 : (Rows.handMoreRow.stops == []) = true := by kernel_rfl
theorem handMoreF7 : (Rows.handMoreRow.knobs == []) = true := by kernel_rfl
theorem handMoreF9 : (Rows.handMoreRow.inPlace == Tryz.prog.inPlace 14) = true := by kernel_rfl
theorem handMoreF10 : (Rows.handMoreRow.unfollowed == Tryz.prog.unfollowed 14) = true := by kernel_rfl
theorem handMoreF11 : (Rows.handMoreRow.recurses == Tryz.prog.recurses 14) = true := by kernel_rfl
theorem handMoreF12 : (Rows.handMoreRow.named == Tryz.prog.varsNamed 14) = true := by kernel_rfl
theorem handMoreF13 : (Rows.handMoreRow.maps == (Tryz.f14.params.toList ++ Rows.handMoreSpec.plain.varTypes Tryz.prog).any (Tryz.prog.mapsRec ·)) = true := by kernel_rfl
theorem handMoreF14 : (Rows.handMoreRow.ifaces == (Tryz.f14.params.toList ++ Rows.handMoreSpec.plain.varTypes Tryz.prog).any (Tryz.prog.ifacesRec ·)) = true := by kernel_rfl
theorem handMoreF15 : (Rows.handMoreRow.mapsOut == Tryz.prog.mapsAmong Tryz.f14.resultTypes.toList) = true := by kernel_rfl
theorem handMoreF16 : (Rows.handMoreRow.loops == (Tryz.f14.params.toList ++ Rows.handMoreSpec.plain.varTypes Tryz.prog).any (Tryz.prog.loopsFrom ·)) = true := by kernel_rfl
theorem handMoreF17 : (Rows.handMoreRow.wideKeys == (Tryz.f14.params.toList ++ Rows.handMoreSpec.plain.varTypes Tryz.prog ++ Tryz.f14.resultTypes.toList).any (Tryz.prog.wideKeysFrom ·)) = true := by kernel_rfl
theorem handMoreF18 : (Rows.handMoreSpec.vars.all (Tryz.prog.varReadable ·)) = true := by kernel_rfl
theorem handMoreF19 : (Tryz.f14.resultTypes.all (fun t => Tryz.prog.readableRec t && decide (t < Tryz.prog.types.size))) = true := by kernel_rfl
theorem handMoreF20 : (Rows.handMoreRow.ifacesOut == Tryz.f14.resultTypes.toList.any (Tryz.prog.ifacesRec ·)) = true := by kernel_rfl
theorem handMoreF21 : (Rows.handMoreRow.loopsOut == Tryz.f14.resultTypes.toList.any (Tryz.prog.loopsFrom ·)) = true := by kernel_rfl
theorem handMoreF22 : (Rows.handMoreRow.plainKeys == Tryz.prog.plainKeys) = true := eqT factPlain (by kernel_rfl)
theorem handMoreF23 : (Rows.handMoreRow.shortTexts.isNone) = true := by kernel_rfl
theorem handMoreF26 : (Rows.handMoreRow.lifted == Tryz.prog.liftsFinal) = true := by rw [factLifts]; kernel_rfl
theorem handMoreF27 : (Tryz.prog.make == some Rows.handMoreRow.make) = true := factMake
theorem handMoreF28 : (Rows.handMoreRow.kinds == (if Rows.handMoreRow.domain.isEmpty then [] else Tryz.f14.params.toList.map fun t => match Tryz.prog.underlying t with | some (.int k) => some k | _ => none)) = true := by kernel_rfl
theorem handMoreF29 : (Rows.handMoreRow.pinned == Rows.handMoreRow.pinnedBy) = true := by kernel_rfl
theorem handMoreF30 : (Rows.handMoreRow.veiled == (Tryz.f14.params.toList ++ Rows.handMoreSpec.plain.varTypes Tryz.prog ++ Tryz.f14.resultTypes.toList).any (Tryz.prog.veiledRec ·)) = true := by kernel_rfl
theorem handMoreF31 : (Rows.handMoreRow.veiledFits Tryz.prog Tryz.f14.params.toList (Tryz.f14.params.toList ++ Rows.handMoreSpec.plain.varTypes Tryz.prog ++ Tryz.f14.resultTypes.toList)) = true := by kernel_rfl
theorem handMoreJoined : joinedFacts Tryz.prog 14 Tryz.f14 Rows.handMoreSpec Rows.handMoreRow = true := (andT (andT (andT (andT (andT (andT (andT (andT (andT (andT (andT (andT (andT (andT (andT (andT (andT (andT (andT (andT (andT (andT (andT (andT (andT (andT (andT (andT (andT (andT (andT handMoreF0 fact1) fact2) handMoreF3) handMoreF4) handMoreF5) fact6) handMoreF7) fact8) handMoreF9) handMoreF10) handMoreF11) handMoreF12) handMoreF13) handMoreF14) handMoreF15) handMoreF16) handMoreF17) handMoreF18) handMoreF19) handMoreF20) handMoreF21) handMoreF22) handMoreF23) fact24) fact25) handMoreF26) handMoreF27) handMoreF28) handMoreF29) handMoreF30) handMoreF31)
theorem handMore_holds : Rows.HandMoreSaid :=
  OpenClaim.holds_of_wide 14 Tryz.f14 rfl rfl rfl rfl rfl rfl rfl ⟨rfl, rfl, rfl, rfl, rfl⟩ rfl rfl rfl rfl rfl (by kernel_rfl) Tryz.func14 handMoreJoined
    (of_decide_eq_true (by kernel_rfl)) (by unfold Func.isWrapper; rw [if_neg (of_decide_eq_false (by kernel_rfl))]; exact ⟨rfl, rfl⟩)
    (fun os started H enc _ => lifted14 os started H enc)
#print axioms handMore_holds
end Go.Proofs.YtkhjmedfhobebaaGreat
