/- HandSmall: for every argument the law returns true, and each argument reads as before. No condition. -/
import Derived.Test.YtkhjmedfhobebaaGreatFacts
import Derived.Test.YtkhjmedfhobebaaGreatSmallW
import Derived.Test.YtkhjmedfhobebaaGreatOpen
import Derived.ProofKit
import Derived.OpenShut
namespace Go.Proofs.YtkhjmedfhobebaaGreat
open Go.RowKit HandSpec Go.ChangeShapes Go.WideShapes Go.ChangeAt
theorem trodAll_nil {H : Type} {enc : TypeId × Value → H} {P : Program} {W : World} {b : Nat} {sp : Nat → Bool} {hd : Bool} {args : Array Value} {ds : List (DataW H)} {p : List MemPlace} (h : DataW.TrodAll enc P W b sp hd (#[] : Array TypeId).toList args.toList ds p) : args = #[] ∧ ds = [] := by
 rcases h0 : args.toList with _ | ⟨v, vs⟩
 ·rw [h0] at h
  cases ds with
  | nil => exact ⟨by simpa using h0, rfl⟩
  | cons d l => simp [DataW.TrodAll] at h
 ·rw [h0] at h
  cases ds <;> simp [DataW.TrodAll] at h
theorem ownKnob_none : ownKnob Tryz.prog.godebug = none := by kernel_rfl
set_option maxRecDepth 100000 in
theorem lifted16 (os : Os) (started : os.Started) (H : Type) (enc : TypeId × Value → H) :
  ReturnsInHanded {} Tryz.checked os 16 .any (Rows.handSmallSpec.pre6 enc Tryz.prog Tryz.f16 Rows.handSmallRow.domain false) (Rows.handSmallSpec.post enc Tryz.prog Tryz.f16 false true false false) := by
 refine returnsInHanded_of_change (C := Tryz.checked) ownKnob_none started (by kernel_rfl) Tryz.func16
  (ChangeSpec.witness6 (enc := enc) (C := Tryz.checked) false ⟨#[], #[], []⟩ 8 (by kernel_rfl) (by kernel_rfl) (by kernel_rfl) (by kernel_rfl)) ?_
 intro W base args ds gs before hval0 hW hcnd _
 have hW' := hW
 obtain ⟨p, q, hA0, hV, rfl, hfz, hnd⟩ := hW
 have hA : DataW.TrodAll enc Tryz.prog W 0 (fun _ => true) true Tryz.f16.params.toList args.toList ds p := hA0
 obtain ⟨rfl, rfl⟩ := trodVars_none hV
 have hlt : ∀ x ∈ p, x.block < W.heap.size := fun x hx => hW'.lt x (by simpa using hx)
 have hA1 := hA
 rw [Tryz.params16] at hA
 obtain ⟨rfl, rfl⟩ := trodAll_nil hA
 simp only [List.append_nil] at hW'
 refine (small16 W).mono fun e W' ⟨he, hb⟩ => ?_
 subst he
 exact ⟨_, rfl, post_later (pa := p) (pv := []) hW' (fun _ _ _ => trodAll_mk1 (shut_bool Tryz.underlying4 _))
  (fun sp hsp => stays hb (by rw [Tryz.params16]; exact fun _ h => by simp at h) hA1 hlt hsp) (fun _ _ => rfl) (by simp) hb (ok_one (by kernel_rfl) rfl (okWide_bool_mk Tryz.underlying4 _))⟩
set_option maxRecDepth 100000
theorem handSmallF0 : (Rows.handSmallRow.wf (OpenSpec.ofChange Rows.handSmallSpec)) = true := by kernel_rfl
theorem handSmallF3 : (Tryz.f16.params.all (Tryz.prog.readableRec ·)) = true := by kernel_rfl
theorem handSmallF4 : (namedTie Tryz.prog Rows.handSmallRow.named Rows.handSmallSpec.vars) = true := by kernel_rfl
theorem handSmallF5 : (Rows.handSmallRow.stops == []) = true := by kernel_rfl
theorem handSmallF7 : (Rows.handSmallRow.knobs == []) = true := by kernel_rfl
theorem handSmallF9 : (Rows.handSmallRow.inPlace == Tryz.prog.inPlace 16) = true := by kernel_rfl
theorem handSmallF10 : (Rows.handSmallRow.unfollowed == Tryz.prog.unfollowed 16) = true := by kernel_rfl
theorem handSmallF11 : (Rows.handSmallRow.recurses == Tryz.prog.recurses 16) = true := by kernel_rfl
theorem handSmallF12 : (Rows.handSmallRow.named == Tryz.prog.varsNamed 16) = true := by kernel_rfl
theorem handSmallF13 : (Rows.handSmallRow.maps == (Tryz.f16.params.toList ++ Rows.handSmallSpec.plain.varTypes Tryz.prog).any (Tryz.prog.mapsRec ·)) = true := by kernel_rfl
theorem handSmallF14 : (Rows.handSmallRow.ifaces == (Tryz.f16.params.toList ++ Rows.handSmallSpec.plain.varTypes Tryz.prog).any (Tryz.prog.ifacesRec ·)) = true := by kernel_rfl
theorem handSmallF15 : (Rows.handSmallRow.mapsOut == Tryz.prog.mapsAmong Tryz.f16.resultTypes.toList) = true := by kernel_rfl
theorem handSmallF16 : (Rows.handSmallRow.loops == (Tryz.f16.params.toList ++ Rows.handSmallSpec.plain.varTypes Tryz.prog).any (Tryz.prog.loopsFrom ·)) = true := by kernel_rfl
theorem handSmallF17 : (Rows.handSmallRow.wideKeys == (Tryz.f16.params.toList ++ Rows.handSmallSpec.plain.varTypes Tryz.prog ++ Tryz.f16.resultTypes.toList).any (Tryz.prog.wideKeysFrom ·)) = true := by kernel_rfl
theorem handSmallF18 : (Rows.handSmallSpec.vars.all (Tryz.prog.varReadable ·)) = true := by kernel_rfl
theorem handSmallF19 : (Tryz.f16.resultTypes.all (fun t => Tryz.prog.readableRec t && decide (t < Tryz.prog.types.size))) = true := by kernel_rfl
theorem handSmallF20 : (Rows.handSmallRow.ifacesOut == Tryz.f16.resultTypes.toList.any (Tryz.prog.ifacesRec ·)) = true := by kernel_rfl
theorem handSmallF21 : (Rows.handSmallRow.loopsOut == Tryz.f16.resultTypes.toList.any (Tryz.prog.loopsFrom ·)) = true := by kernel_rfl
theorem handSmallF22 : (Rows.handSmallRow.plainKeys == Tryz.prog.plainKeys) = true := eqT factPlain (by kernel_rfl)
theorem handSmallF23 : (Rows.handSmallRow.shortTexts.isNone) = true := by kernel_rfl
theorem handSmallF26 : (Rows.handSmallRow.lifted == Tryz.prog.liftsFinal) = true := by rw [factLifts]; kernel_rfl
theorem handSmallF27 : (Tryz.prog.make == some Rows.handSmallRow.make) = true := factMake
theorem handSmallF28 : (Rows.handSmallRow.kinds == (if Rows.handSmallRow.domain.isEmpty then [] else Tryz.f16.params.toList.map fun t => match Tryz.prog.underlying t with | some (.int k) => some k | _ => none)) = true := by kernel_rfl
theorem handSmallF29 : (Rows.handSmallRow.pinned == Rows.handSmallRow.pinnedBy) = true := by kernel_rfl
theorem handSmallF30 : (Rows.handSmallRow.veiled == (Tryz.f16.params.toList ++ Rows.handSmallSpec.plain.varTypes Tryz.prog ++ Tryz.f16.resultTypes.toList).any (Tryz.prog.veiledRec ·)) = true := by kernel_rfl
theorem handSmallF31 : (Rows.handSmallRow.veiledFits Tryz.prog Tryz.f16.params.toList (Tryz.f16.params.toList ++ Rows.handSmallSpec.plain.varTypes Tryz.prog ++ Tryz.f16.resultTypes.toList)) = true := by kernel_rfl
theorem handSmallJoined : joinedFacts Tryz.prog 16 Tryz.f16 Rows.handSmallSpec Rows.handSmallRow = true := (andT (andT (andT (andT (andT (andT (andT (andT (andT (andT (andT (andT (andT (andT (andT (andT (andT (andT (andT (andT (andT (andT (andT (andT (andT (andT (andT (andT (andT (andT (andT handSmallF0 fact1) fact2) handSmallF3) handSmallF4) handSmallF5) fact6) handSmallF7) fact8) handSmallF9) handSmallF10) handSmallF11) handSmallF12) handSmallF13) handSmallF14) handSmallF15) handSmallF16) handSmallF17) handSmallF18) handSmallF19) handSmallF20) handSmallF21) handSmallF22) handSmallF23) fact24) fact25) handSmallF26) handSmallF27) handSmallF28) handSmallF29) handSmallF30) handSmallF31)
theorem handSmall_holds : Rows.HandSmallSaid :=
 OpenClaim.holds_of_wide 16 Tryz.f16 rfl rfl rfl rfl rfl rfl rfl ⟨rfl, rfl, rfl, rfl, rfl⟩ rfl rfl rfl rfl rfl (by kernel_rfl) Tryz.func16 handSmallJoined
  (of_decide_eq_true (by kernel_rfl)) (by unfold Func.isWrapper; rw [if_neg (of_decide_eq_false (by kernel_rfl))]; exact ⟨rfl, rfl⟩)
  (fun os started H enc _ => lifted16 os started H enc)
#print axioms handSmall_holds
end Go.Proofs.YtkhjmedfhobebaaGreat
