/- HandChecks: for every argument the law returns true, and each argument reads as before. No condition. -/
import Derived.Test.YtkhjmedfhobebaaGreatFacts
import Derived.Test.YtkhjmedfhobebaaGreatLawH
import Derived.Test.YtkhjmedfhobebaaGreatOpen
import Derived.ProofKit
import Derived.OpenShut
namespace Go.Proofs.YtkhjmedfhobebaaGreat
open Go.RowKit HandSpec Go.ChangeShapes Go.WideShapes Go.ChangeAt
theorem ownKnob_none : ownKnob Tryz.prog.godebug = none := by kernel_rfl
theorem readable26 : Tryz.prog.readableRec 26 = true ∧ 26 < Tryz.prog.types.size := ⟨by kernel_rfl, of_decide_eq_true (by kernel_rfl)⟩
theorem readable51 : Tryz.prog.readableRec 51 = true ∧ 51 < Tryz.prog.types.size := ⟨by kernel_rfl, of_decide_eq_true (by kernel_rfl)⟩
theorem readable79 : Tryz.prog.readableRec 79 = true ∧ 79 < Tryz.prog.types.size := ⟨by kernel_rfl, of_decide_eq_true (by kernel_rfl)⟩
set_option maxRecDepth 100000 in
theorem lifted7 (os : Os) (started : os.Started) (H : Type) (enc : TypeId × Value → H) :
    ReturnsInHanded {} Tryz.checked os 7 .any (Rows.handChecksSpec.pre6 enc Tryz.prog Tryz.f7 Rows.handChecksRow.domain false) (Rows.handChecksSpec.post enc Tryz.prog Tryz.f7 false true false false) := by
  refine returnsInHanded_of_change (C := Tryz.checked) ownKnob_none started (by kernel_rfl) Tryz.func7
    (ChangeSpec.witness6 (enc := enc) (C := Tryz.checked) false ⟨#[], #[.agg #[.int .i64 0, .int .i64 0, .int .i64 0, .slice none 0 0, .slice none 0 0, .slice none 0 0], .agg #[.int .i64 0, .int .i64 0, .int .i64 0], .agg #[.int .i64 0, .int .i64 0]], []⟩ 8 (by kernel_rfl) (by kernel_rfl) (by kernel_rfl) (by kernel_rfl)) ?_
  intro W base args ds gs before hval0 hW hcnd _
  have hval : ∀ (j : Nat) t v, Tryz.f7.params[j]? = some t → args[j]? = some v → Value.okWide Tryz.prog W .any base t v := hval0
  have hW' := hW
  obtain ⟨p, q, hA0, hV, rfl, hfz, hnd⟩ := hW
  have hA : DataW.TrodAll enc Tryz.prog W 0 (fun _ => true) true Tryz.f7.params.toList args.toList ds p := hA0
  obtain ⟨rfl, rfl⟩ := trodVars_none hV
  have hlt : ∀ x ∈ p, x.block < W.heap.size := fun x hx => hW'.lt x (by simpa using hx)
  have hA1 := hA
  rw [Tryz.params7] at hA hval
  obtain ⟨v0, v1, v2, d0, d1, d2, p0, p1, p2, rfl, rfl, rfl, h0, h1, h2⟩ := trodAll_three hA
  obtain ⟨x, hx⟩ := open26 (hval 0 26 v0 rfl rfl) h0
  obtain ⟨k1a, k1b, k1c, rfl⟩ := open79 (hval 1 79 v1 rfl rfl) h1
  obtain ⟨k2a, k2b, rfl⟩ := open51 (hval 2 51 v2 rfl rfl) h2
  simp only [List.append_nil] at hW'
  refine (law7 hx k1a k1b k1c k2a k2b).mono fun e W' ⟨he, hb⟩ => ?_
  subst he
  exact ⟨_, rfl, post_later (pa := p0 ++ p1 ++ p2) (pv := []) hW' (fun _ _ _ => trodAll_mk1 (shut_bool Tryz.underlying4 _))
    (fun sp hsp => stays hb (by rw [Tryz.params7]; simp only [List.forall_mem_cons]; exact ⟨readable26, readable79, readable51, fun _ h => by simp at h⟩) hA1 hlt hsp) (fun _ _ => rfl) (by simp) hb (ok_one (by kernel_rfl) rfl (okWide_bool_mk Tryz.underlying4 _))⟩
set_option maxRecDepth 100000
theorem handChecksF0 : (Rows.handChecksRow.wf (OpenSpec.ofChange Rows.handChecksSpec)) = true := by kernel_rfl
theorem handChecksF3 : (Tryz.f7.params.all (Tryz.prog.readableRec ·)) = true := by kernel_rfl
theorem handChecksF4 : (namedTie Tryz.prog Rows.handChecksRow.named Rows.handChecksSpec.vars) = true := by kernel_rfl
theorem handChecksF5 : (Rows.handChecksRow.stops == []) = true := by kernel_rfl
theorem handChecksF7 : (Rows.handChecksRow.knobs == []) = true := by kernel_rfl
theorem handChecksF9 : (Rows.handChecksRow.inPlace == Tryz.prog.inPlace 7) = true := by kernel_rfl
theorem handChecksF10 : (Rows.handChecksRow.unfollowed == Tryz.prog.unfollowed 7) = true := by kernel_rfl
theorem handChecksF11 : (Rows.handChecksRow.recurses == Tryz.prog.recurses 7) = true := by kernel_rfl
theorem handChecksF12 : (Rows.handChecksRow.named == Tryz.prog.varsNamed 7) = true := by kernel_rfl
theorem handChecksF13 : (Rows.handChecksRow.maps == (Tryz.f7.params.toList ++ Rows.handChecksSpec.plain.varTypes Tryz.prog).any (Tryz.prog.mapsRec ·)) = true := by kernel_rfl
theorem handChecksF14 : (Rows.handChecksRow.ifaces == (Tryz.f7.params.toList ++ Rows.handChecksSpec.plain.varTypes Tryz.prog).any (Tryz.prog.ifacesRec ·)) = true := by kernel_rfl
theorem handChecksF15 : (Rows.handChecksRow.mapsOut == Tryz.prog.mapsAmong Tryz.f7.resultTypes.toList) = true := by kernel_rfl
theorem handChecksF16 : (Rows.handChecksRow.loops == (Tryz.f7.params.toList ++ Rows.handChecksSpec.plain.varTypes Tryz.prog).any (Tryz.prog.loopsFrom ·)) = true := by kernel_rfl
theorem handChecksF17 : (Rows.handChecksRow.wideKeys == (Tryz.f7.params.toList ++ Rows.handChecksSpec.plain.varTypes Tryz.prog ++ Tryz.f7.resultTypes.toList).any (Tryz.prog.wideKeysFrom ·)) = true := by kernel_rfl
theorem handChecksF18 : (Rows.handChecksSpec.vars.all (Tryz.prog.varReadable ·)) = true := by kernel_rfl
theorem handChecksF19 : (Tryz.f7.resultTypes.all (fun t => Tryz.prog.readableRec t && decide (t < Tryz.prog.types.size))) = true := by kernel_rfl
theorem handChecksF20 : (Rows.handChecksRow.ifacesOut == Tryz.f7.resultTypes.toList.any (Tryz.prog.ifacesRec ·)) = true := by kernel_rfl
theorem handChecksF21 : (Rows.handChecksRow.loopsOut == Tryz.f7.resultTypes.toList.any (Tryz.prog.loopsFrom ·)) = true := by kernel_rfl
theorem handChecksF22 : (Rows.handChecksRow.plainKeys == Tryz.prog.plainKeys) = true := eqT factPlain (by kernel_rfl)
theorem handChecksF23 : (Rows.handChecksRow.shortTexts.isNone) = true := by kernel_rfl
theorem handChecksF26 : (Rows.handChecksRow.lifted == Tryz.prog.liftsFinal) = true := by rw [factLifts]; kernel_rfl
theorem handChecksF27 : (Tryz.prog.make == some Rows.handChecksRow.make) = true := factMake
theorem handChecksF28 : (Rows.handChecksRow.kinds == (if Rows.handChecksRow.domain.isEmpty then [] else Tryz.f7.params.toList.map fun t => match Tryz.prog.underlying t with | some (.int k) => some k | _ => none)) = true := by kernel_rfl
theorem handChecksF29 : (Rows.handChecksRow.pinned == Rows.handChecksRow.pinnedBy) = true := by kernel_rfl
theorem handChecksF30 : (Rows.handChecksRow.veiled == (Tryz.f7.params.toList ++ Rows.handChecksSpec.plain.varTypes Tryz.prog ++ Tryz.f7.resultTypes.toList).any (Tryz.prog.veiledRec ·)) = true := by kernel_rfl
theorem handChecksF31 : (Rows.handChecksRow.veiledFits Tryz.prog Tryz.f7.params.toList (Tryz.f7.params.toList ++ Rows.handChecksSpec.plain.varTypes Tryz.prog ++ Tryz.f7.resultTypes.toList)) = true := by kernel_rfl
theorem handChecksJoined : joinedFacts Tryz.prog 7 Tryz.f7 Rows.handChecksSpec Rows.handChecksRow = true := (andT (andT (andT (andT (andT (andT (andT (andT (andT (andT (andT (andT (andT (andT (andT (andT (andT (andT (andT (andT (andT (andT (andT (andT (andT (andT (andT (andT (andT (andT (andT handChecksF0 fact1) fact2) handChecksF3) handChecksF4) handChecksF5) fact6) handChecksF7) fact8) handChecksF9) handChecksF10) handChecksF11) handChecksF12) handChecksF13) handChecksF14) handChecksF15) handChecksF16) handChecksF17) handChecksF18) handChecksF19) handChecksF20) handChecksF21) handChecksF22) handChecksF23) fact24) fact25) handChecksF26) handChecksF27) handChecksF28) handChecksF29) handChecksF30) handChecksF31)
theorem handChecks_holds : Rows.HandChecksSaid :=
  OpenClaim.holds_of_wide 7 Tryz.f7 rfl rfl rfl rfl rfl rfl rfl ⟨rfl, rfl, rfl, rfl, rfl⟩ rfl rfl rfl rfl rfl (by kernel_rfl) Tryz.func7 handChecksJoined
    (of_decide_eq_true (by kernel_rfl)) (by unfold Func.isWrapper; rw [if_neg (of_decide_eq_false (by kernel_rfl))]; exact ⟨rfl, rfl⟩)
    (fun os started H enc _ => lifted7 os started H enc)
#print axioms handChecks_holds
end Go.Proofs.YtkhjmedfhobebaaGreat
