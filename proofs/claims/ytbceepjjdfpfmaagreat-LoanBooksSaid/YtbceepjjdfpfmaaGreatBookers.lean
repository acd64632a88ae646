/- LoanBooks: for every argument the law returns true, and each argument reads as before. No condition. -/
import Derived.Test.YtbceepjjdfpfmaaGreatFacts
import Derived.Test.YtbceepjjdfpfmaaGreatLawG
import Derived.Test.YtbceepjjdfpfmaaGreatOpen
import Derived.ProofKit
import Derived.OpenShut
namespace Go.Proofs.YtbceepjjdfpfmaaGreat
open Go.RowKit HandSpec LoanSpec Go.ChangeShapes Go.WideShapes Go.ChangeAt
theorem ownKnob_none : ownKnob Tryz.prog.godebug = none := by kernel_rfl
theorem readable3 : Tryz.prog.readableRec 3 = true ∧ 3 < Tryz.prog.types.size := ⟨by kernel_rfl, of_decide_eq_true (by kernel_rfl)⟩
theorem readable27 : Tryz.prog.readableRec 27 = true ∧ 27 < Tryz.prog.types.size := ⟨by kernel_rfl, of_decide_eq_true (by kernel_rfl)⟩
set_option maxRecDepth 100000 in
theorem lifted6 (os : Os) (started : os.Started) (H : Type) (enc : TypeId × Value → H) :
    ReturnsInHanded {} Tryz.checked os 6 .any (Rows.loanBooksSpec.pre6 enc Tryz.prog Tryz.f6 Rows.loanBooksRow.domain false) (Rows.loanBooksSpec.post enc Tryz.prog Tryz.f6 false true false false) := by
  refine returnsInHanded_of_change (C := Tryz.checked) ownKnob_none started (by kernel_rfl) Tryz.func6
    (ChangeSpec.witness6 (enc := enc) (C := Tryz.checked) false ⟨#[], #[.agg #[.int .i64 0, .int .i64 0, .slice none 0 0, .slice none 0 0, .slice none 0 0, .slice none 0 0, .slice none 0 0], .int .i64 0, .int .i64 0, .int .i64 0], []⟩ 8 (by kernel_rfl) (by kernel_rfl) (by kernel_rfl) (by kernel_rfl)) ?_
  intro W base args ds gs before hval0 hW hcnd _
  have hval : ∀ (j : Nat) t v, Tryz.f6.params[j]? = some t → args[j]? = some v → Value.okWide Tryz.prog W .any base t v := hval0
  have hW' := hW
  obtain ⟨p, q, hA0, hV, rfl, hfz, hnd⟩ := hW
  have hA : DataW.TrodAll enc Tryz.prog W 0 (fun _ => true) true Tryz.f6.params.toList args.toList ds p := hA0
  obtain ⟨rfl, rfl⟩ := trodVars_none hV
  have hlt : ∀ x ∈ p, x.block < W.heap.size := fun x hx => hW'.lt x (by simpa using hx)
  have hA1 := hA
  rw [Tryz.params6] at hA hval
  obtain ⟨v0, v1, v2, v3, d0, d1, d2, d3, p0, p1, p2, p3, rfl, rfl, rfl, h0, h1, h2, h3⟩ := trodAll_four hA
  obtain ⟨x0, hx0⟩ := open27 (hval 0 27 v0 rfl rfl) h0
  obtain ⟨k1, rfl, -, -, -⟩ := open_int Tryz.underlying3 (hval 1 3 v1 rfl rfl) h1
  obtain ⟨k2, rfl, -, -, -⟩ := open_int Tryz.underlying3 (hval 2 3 v2 rfl rfl) h2
  obtain ⟨k3, rfl, -, -, -⟩ := open_int Tryz.underlying3 (hval 3 3 v3 rfl rfl) h3
  simp only [List.append_nil] at hW'
  refine (law6 hx0 k1 k2 k3).mono fun e W' ⟨he, hb⟩ => ?_
  subst he
  exact ⟨_, rfl, post_later (pa := p0 ++ p1 ++ p2 ++ p3) (pv := []) hW' (fun _ _ _ => trodAll_mk1 (shut_bool Tryz.underlying4 _))
    (fun sp hsp => stays hb (by rw [Tryz.params6]; simp only [List.forall_mem_cons]; exact ⟨readable27, readable3, readable3, readable3, fun _ h => by simp at h⟩) hA1 hlt hsp) (fun _ _ => rfl) (by simp) hb (ok_one (by kernel_rfl) rfl (okWide_bool_mk Tryz.underlying4 _))⟩
set_option maxRecDepth 100000
theorem loanBooksF0 : (Rows.loanBooksRow.wf (OpenSpec.ofChange Rows.loanBooksSpec)) = true := by kernel_rfl
theorem loanBooksF3 : (Tryz.f6.params.all (Tryz.prog.readableRec ·)) = true := by kernel_rfl
theorem loanBooksF4 : (namedTie Tryz.prog Rows.loanBooksRow.named Rows.loanBooksSpec.vars) = true := by kernel_rfl
theorem loanBooksF5 : (Rows.loanBooksRow.stops == []) = true := by kernel_rfl
theorem loanBooksF7 : (Rows.loanBooksRow.knobs == []) = true := by kernel_rfl
theorem loanBooksF9 : (Rows.loanBooksRow.inPlace == Tryz.prog.inPlace 6) = true := by kernel_rfl
theorem loanBooksF10 : (Rows.loanBooksRow.unfollowed == Tryz.prog.unfollowed 6) = true := by kernel_rfl
theorem loanBooksF11 : (Rows.loanBooksRow.recurses == Tryz.prog.recurses 6) = true := by kernel_rfl
theorem loanBooksF12 : (Rows.loanBooksRow.named == Tryz.prog.varsNamed 6) = true := by kernel_rfl
theorem loanBooksF13 : (Rows.loanBooksRow.maps == (Tryz.f6.params.toList ++ Rows.loanBooksSpec.plain.varTypes Tryz.prog).any (Tryz.prog.mapsRec ·)) = true := by kernel_rfl
theorem loanBooksF14 : (Rows.loanBooksRow.ifaces == (Tryz.f6.params.toList ++ Rows.loanBooksSpec.plain.varTypes Tryz.prog).any (Tryz.prog.ifacesRec ·)) = true := by kernel_rfl
theorem loanBooksF15 : (Rows.loanBooksRow.mapsOut == Tryz.prog.mapsAmong Tryz.f6.resultTypes.toList) = true := by kernel_rfl
theorem loanBooksF16 : (Rows.loanBooksRow.loops == (Tryz.f6.params.toList ++ Rows.loanBooksSpec.plain.varTypes Tryz.prog).any (Tryz.prog.loopsFrom ·)) = true := by kernel_rfl
theorem loanBooksF17 : (Rows.loanBooksRow.wideKeys == (Tryz.f6.params.toList ++ Rows.loanBooksSpec.plain.varTypes Tryz.prog ++ Tryz.f6.resultTypes.toList).any (Tryz.prog.wideKeysFrom ·)) = true := by kernel_rfl
theorem loanBooksF18 : (Rows.loanBooksSpec.vars.all (Tryz.prog.varReadable ·)) = true := by kernel_rfl
theorem loanBooksF19 : (Tryz.f6.resultTypes.all (fun t => Tryz.prog.readableRec t && decide (t < Tryz.prog.types.size))) = true := by kernel_rfl
theorem loanBooksF20 : (Rows.loanBooksRow.ifacesOut == Tryz.f6.resultTypes.toList.any (Tryz.prog.ifacesRec ·)) = true := by kernel_rfl
theorem loanBooksF21 : (Rows.loanBooksRow.loopsOut == Tryz.f6.resultTypes.toList.any (Tryz.prog.loopsFrom ·)) = true := by kernel_rfl
theorem loanBooksF22 : (Rows.loanBooksRow.plainKeys == Tryz.prog.plainKeys) = true := eqT factPlain (by kernel_rfl)
theorem loanBooksF23 : (Rows.loanBooksRow.shortTexts.isNone) = true := by kernel_rfl
theorem loanBooksF26 : (Rows.loanBooksRow.lifted == Tryz.prog.liftsFinal) = true := by rw [factLifts]; kernel_rfl
theorem loanBooksF27 : (Tryz.prog.make == some Rows.loanBooksRow.make) = true := factMake
theorem loanBooksF28 : (Rows.loanBooksRow.kinds == (if Rows.loanBooksRow.domain.isEmpty then [] else Tryz.f6.params.toList.map fun t => match Tryz.prog.underlying t with | some (.int k) => some k | _ => none)) = true := by kernel_rfl
theorem loanBooksF29 : (Rows.loanBooksRow.pinned == Rows.loanBooksRow.pinnedBy) = true := by kernel_rfl
theorem loanBooksF30 : (Rows.loanBooksRow.veiled == (Tryz.f6.params.toList ++ Rows.loanBooksSpec.plain.varTypes Tryz.prog ++ Tryz.f6.resultTypes.toList).any (Tryz.prog.veiledRec ·)) = true := by kernel_rfl
theorem loanBooksF31 : (Rows.loanBooksRow.veiledFits Tryz.prog Tryz.f6.params.toList (Tryz.f6.params.toList ++ Rows.loanBooksSpec.plain.varTypes Tryz.prog ++ Tryz.f6.resultTypes.toList)) = true := by kernel_rfl
theorem loanBooksJoined : joinedFacts Tryz.prog 6 Tryz.f6 Rows.loanBooksSpec Rows.loanBooksRow = true := (andT (andT (andT (andT (andT (andT (andT (andT (andT (andT (andT (andT (andT (andT (andT (andT (andT (andT (andT (andT (andT (andT (andT (andT (andT (andT (andT (andT (andT (andT (andT loanBooksF0 fact1) fact2) loanBooksF3) loanBooksF4) loanBooksF5) fact6) loanBooksF7) fact8) loanBooksF9) loanBooksF10) loanBooksF11) loanBooksF12) loanBooksF13) loanBooksF14) loanBooksF15) loanBooksF16) loanBooksF17) loanBooksF18) loanBooksF19) loanBooksF20) loanBooksF21) loanBooksF22) loanBooksF23) fact24) fact25) loanBooksF26) loanBooksF27) loanBooksF28) loanBooksF29) loanBooksF30) loanBooksF31)
theorem loanBooks_holds : Rows.LoanBooksSaid :=
  OpenClaim.holds_of_wide 6 Tryz.f6 rfl rfl rfl rfl rfl rfl rfl ⟨rfl, rfl, rfl, rfl, rfl⟩ rfl rfl rfl rfl rfl (by kernel_rfl) Tryz.func6 loanBooksJoined
    (of_decide_eq_true (by kernel_rfl)) (by unfold Func.isWrapper; rw [if_neg (of_decide_eq_false (by kernel_rfl))]; exact ⟨rfl, rfl⟩)
    (fun os started H enc _ => lifted6 os started H enc)
#print axioms loanBooks_holds
end Go.Proofs.YtbceepjjdfpfmaaGreat
