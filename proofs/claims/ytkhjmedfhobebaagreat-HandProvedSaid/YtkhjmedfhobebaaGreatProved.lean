/- HandProved: for every argument the law returns true, and each argument reads as before. No condition. -/
import Derived.Test.YtkhjmedfhobebaaGreatFacts
import Derived.Test.YtkhjmedfhobebaaGreatLawV
import Derived.Test.YtkhjmedfhobebaaGreatOpen
import Derived.ProofKit
import Derived.OpenShut
namespace Go.Proofs.YtkhjmedfhobebaaGreat
open Go.RowKit HandSpec Go.ChangeShapes Go.WideShapes Go.ChangeAt
theorem ownKnob_none : ownKnob Tryz.prog.godebug = none := by kernel_rfl
theorem readable5 : Tryz.prog.readableRec 5 = true ∧ 5 < Tryz.prog.types.size := ⟨by kernel_rfl, of_decide_eq_true (by kernel_rfl)⟩
theorem readable99 : Tryz.prog.readableRec 99 = true ∧ 99 < Tryz.prog.types.size := ⟨by kernel_rfl, of_decide_eq_true (by kernel_rfl)⟩
set_option maxRecDepth 100000 in
theorem lifted11 (os : Os) (started : os.Started) (H : Type) (enc : TypeId × Value → H) :
    ReturnsInHanded {} Tryz.checked os 11 .any (Rows.handProvedSpec.pre6 enc Tryz.prog Tryz.f11 Rows.handProvedRow.domain false) (Rows.handProvedSpec.post enc Tryz.prog Tryz.f11 false true false false) := by
  refine returnsInHanded_of_change (C := Tryz.checked) ownKnob_none started (by kernel_rfl) Tryz.func11
    (ChangeSpec.witness6 (enc := enc) (C := Tryz.checked) false ⟨#[], #[.slice none 0 0, .slice none 0 0, .int .u8 0], []⟩ 8 (by kernel_rfl) (by kernel_rfl) (by kernel_rfl) (by kernel_rfl)) ?_
  intro W base args ds gs before hval0 hW hcnd _
  have hval : ∀ (j : Nat) t v, Tryz.f11.params[j]? = some t → args[j]? = some v → Value.okWide Tryz.prog W .any base t v := hval0
  have hW' := hW
  obtain ⟨p, q, hA0, hV, rfl, hfz, hnd⟩ := hW
  have hA : DataW.TrodAll enc Tryz.prog W 0 (fun _ => true) true Tryz.f11.params.toList args.toList ds p := hA0
  obtain ⟨rfl, rfl⟩ := trodVars_none hV
  have hlt : ∀ x ∈ p, x.block < W.heap.size := fun x hx => hW'.lt x (by simpa using hx)
  have hA1 := hA
  rw [Tryz.params11] at hA hval
  obtain ⟨v0, v1, v2, d0, d1, d2, p0, p1, p2, rfl, rfl, rfl, h0, h1, h2⟩ := trodAll_three hA
  obtain ⟨A0, n0, cap0, rfl, hb0⟩ := open99 (hval 0 99 v0 rfl rfl) h0
  obtain ⟨A1, n1, cap1, rfl, hb1⟩ := open99 (hval 1 99 v1 rfl rfl) h1
  obtain ⟨k2, rfl, -, -, hk2⟩ := open_int Tryz.underlying5 (hval 2 5 v2 rfl rfl) h2
  obtain ⟨j2, rfl, hj2⟩ := u8_nat hk2
  simp only [List.append_nil] at hW'
  refine (law11 hb0 hb1 hj2).mono fun e W' ⟨he, hb⟩ => ?_
  subst he
  exact ⟨_, rfl, post_later (pa := p0 ++ p1 ++ p2) (pv := []) hW' (fun _ _ _ => trodAll_mk1 (shut_bool Tryz.underlying4 _))
    (fun sp hsp => stays hb (by rw [Tryz.params11]; simp only [List.forall_mem_cons]; exact ⟨readable99, readable99, readable5, fun _ h => by simp at h⟩) hA1 hlt hsp) (fun _ _ => rfl) (by simp) hb (ok_one (by kernel_rfl) rfl (okWide_bool_mk Tryz.underlying4 _))⟩
set_option maxRecDepth 100000
theorem handProvedF0 : (Rows.handProvedRow.wf (OpenSpec.ofChange Rows.handProvedSpec)) = true := by kernel_rfl
theorem handProvedF3 : (Tryz.f11.params.all (Tryz.prog.readableRec ·)) = true := by kernel_rfl
theorem handProvedF4 : (namedTie Tryz.prog Rows.handProvedRow.named Rows.handProvedSpec.vars) = true := by kernel_rfl
theorem handProvedF5 : (Rows.handProvedRow.stops == []) = true := by kernel_rfl
theorem handProvedF7 : (Rows.handProvedRow.knobs == []) = true := by kernel_rfl
theorem handProvedF9 : (Rows.handProvedRow.inPlace == Tryz.prog.inPlace 11) = true := by kernel_rfl
theorem handProvedF10 : (Rows.handProvedRow.unfollowed == Tryz.prog.unfollowed 11) = true := by kernel_rfl
theorem handProvedF11 : (Rows.handProvedRow.recurses == Tryz.prog.recurses 11) = true := by kernel_rfl
theorem handProvedF12 : (Rows.handProvedRow.named == Tryz.prog.varsNamed 11) = true := by kernel_rfl
theorem handProvedF13 : (Rows.handProvedRow.maps == (Tryz.f11.params.toList ++ Rows.handProvedSpec.plain.varTypes Tryz.prog).any (Tryz.prog.mapsRec ·)) = true := by kernel_rfl
theorem handProvedF14 : (Rows.handProvedRow.ifaces == (Tryz.f11.params.toList ++ Rows.handProvedSpec.plain.varTypes Tryz.prog).any (Tryz.prog.ifacesRec ·)) = true := by kernel_rfl
theorem handProvedF15 : (Rows.handProvedRow.mapsOut == Tryz.prog.mapsAmong Tryz.f11.resultTypes.toList) = true := by kernel_rfl
theorem handProvedF16 : (Rows.handProvedRow.loops == (Tryz.f11.params.toList ++ Rows.handProvedSpec.plain.varTypes Tryz.prog).any (Tryz.prog.loopsFrom ·)) = true := by kernel_rfl
theorem handProvedF17 : (Rows.handProvedRow.wideKeys == (Tryz.f11.params.toList ++ Rows.handProvedSpec.plain.varTypes Tryz.prog ++ Tryz.f11.resultTypes.toList).any (Tryz.prog.wideKeysFrom ·)) = true := by kernel_rfl
theorem handProvedF18 : (Rows.handProvedSpec.vars.all (Tryz.prog.varReadable ·)) = true := by kernel_rfl
theorem handProvedF19 : (Tryz.f11.resultTypes.all (fun t => Tryz.prog.readableRec t && decide (t < Tryz.prog.types.size))) = true := by kernel_rfl
theorem handProvedF20 : (Rows.handProvedRow.ifacesOut == Tryz.f11.resultTypes.toList.any (Tryz.prog.ifacesRec ·)) = true := by kernel_rfl
theorem handProvedF21 : (Rows.handProvedRow.loopsOut == Tryz.f11.resultTypes.toList.any (Tryz.prog.loopsFrom ·)) = true := by kernel_rfl
theorem handProvedF22 : (Rows.handProvedRow.plainKeys == Tryz.prog.plainKeys) = true := eqT factPlain (by kernel_rfl)
theorem handProvedF23 : (Rows.handProvedRow.shortTexts.isNone) = true := by kernel_rfl
theorem handProvedF26 : (Rows.handProvedRow.lifted == Tryz.prog.liftsFinal) = true := by rw [factLifts]; kernel_rfl
theorem handProvedF27 : (Tryz.prog.make == some Rows.handProvedRow.make) = true := factMake
theorem handProvedF28 : (Rows.handProvedRow.kinds == (if Rows.handProvedRow.domain.isEmpty then [] else Tryz.f11.params.toList.map fun t => match Tryz.prog.underlying t with | some (.int k) => some k | _ => none)) = true := by kernel_rfl
theorem handProvedF29 : (Rows.handProvedRow.pinned == Rows.handProvedRow.pinnedBy) = true := by kernel_rfl
theorem handProvedF30 : (Rows.handProvedRow.veiled == (Tryz.f11.params.toList ++ Rows.handProvedSpec.plain.varTypes Tryz.prog ++ Tryz.f11.resultTypes.toList).any (Tryz.prog.veiledRec ·)) = true := by kernel_rfl
theorem handProvedF31 : (Rows.handProvedRow.veiledFits Tryz.prog Tryz.f11.params.toList (Tryz.f11.params.toList ++ Rows.handProvedSpec.plain.varTypes Tryz.prog ++ Tryz.f11.resultTypes.toList)) = true := by kernel_rfl
theorem handProvedJoined : joinedFacts Tryz.prog 11 Tryz.f11 Rows.handProvedSpec Rows.handProvedRow = true := (andT (andT (andT (andT (andT (andT (andT (andT (andT (andT (andT (andT (andT (andT (andT (andT (andT (andT (andT (andT (andT (andT (andT (andT (andT (andT (andT (andT (andT (andT (andT handProvedF0 fact1) fact2) handProvedF3) handProvedF4) handProvedF5) fact6) handProvedF7) fact8) handProvedF9) handProvedF10) handProvedF11) handProvedF12) handProvedF13) handProvedF14) handProvedF15) handProvedF16) handProvedF17) handProvedF18) handProvedF19) handProvedF20) handProvedF21) handProvedF22) handProvedF23) fact24) fact25) handProvedF26) handProvedF27) handProvedF28) handProvedF29) handProvedF30) handProvedF31)
theorem handProved_holds : Rows.HandProvedSaid :=
  OpenClaim.holds_of_wide 11 Tryz.f11 rfl rfl rfl rfl rfl rfl rfl ⟨rfl, rfl, rfl, rfl, rfl⟩ rfl rfl rfl rfl rfl (by kernel_rfl) Tryz.func11 handProvedJoined
    (of_decide_eq_true (by kernel_rfl)) (by unfold Func.isWrapper; rw [if_neg (of_decide_eq_false (by kernel_rfl))]; exact ⟨rfl, rfl⟩)
    (fun os started H enc _ => lifted11 os started H enc)
#print axioms handProved_holds
end Go.Proofs.YtkhjmedfhobebaaGreat
