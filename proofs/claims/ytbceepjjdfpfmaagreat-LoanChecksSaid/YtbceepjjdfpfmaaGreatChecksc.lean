/- LoanChecks: for every argument the law returns true, and each argument reads as before. No condition. -/
import Derived.Test.YtbceepjjdfpfmaaGreatFacts
import Derived.Test.YtbceepjjdfpfmaaGreatLawP
import Derived.Test.YtbceepjjdfpfmaaGreatOpen
import Derived.ProofKit
import Derived.OpenShut
namespace Go.Proofs.YtbceepjjdfpfmaaGreat
open Go.RowKit HandSpec LoanSpec Go.ChangeShapes Go.WideShapes Go.ChangeAt
set_option maxRecDepth 100000 in
theorem open68 {H : Type} {enc : TypeId × Value → H} {w : World} {base : Nat} {spare : Nat → Bool} {held : Bool} {r : Reach} {b0 : Nat} {v : Value} {d : DataW H} {p : List MemPlace} (hv : Value.okWide Tryz.prog w r b0 68 v) (h : DataW.Trod enc Tryz.prog w base spare held 68 v d p) : ∃ a b c : Int, v = .agg #[.int .i64 a, .int .i64 b, .int .i64 c] := by
  obtain ⟨⟨l⟩, rfl, hsz⟩ := Go.WideShapes.okWide_struct Tryz.underlying68 hv
  rw [cells68] at hsz
  match l, hsz with
  | [c0, c1, c2], _ =>
    obtain ⟨fuel, hf⟩ := h
    have hi := (ints68 hf).2
    obtain ⟨a, e0⟩ := hi 0 (by omega)
    obtain ⟨b, e1⟩ := hi 1 (by omega)
    obtain ⟨c, e2⟩ := hi 2 (by omega)
    simp [Value.cells] at e0 e1 e2
    subst e0 e1 e2
    exact ⟨a, b, c, rfl⟩
set_option maxRecDepth 100000 in
theorem open71 {H : Type} {enc : TypeId × Value → H} {w : World} {base : Nat} {spare : Nat → Bool} {held : Bool} {r : Reach} {b0 : Nat} {v : Value} {d : DataW H} {p : List MemPlace} (hv : Value.okWide Tryz.prog w r b0 71 v) (h : DataW.Trod enc Tryz.prog w base spare held 71 v d p) : ∃ a b c : Int, v = .agg #[.int .i64 a, .int .i64 b, .int .i64 c] := by
  obtain ⟨⟨l⟩, rfl, hsz⟩ := Go.WideShapes.okWide_struct Tryz.underlying71 hv
  rw [cells71] at hsz
  match l, hsz with
  | [c0, c1, c2], _ =>
    obtain ⟨fuel, hf⟩ := h
    have hi := (ints71 hf).2
    obtain ⟨a, e0⟩ := hi 0 (by omega)
    obtain ⟨b, e1⟩ := hi 1 (by omega)
    obtain ⟨c, e2⟩ := hi 2 (by omega)
    simp [Value.cells] at e0 e1 e2
    subst e0 e1 e2
    exact ⟨a, b, c, rfl⟩
theorem ownKnob_none : ownKnob Tryz.prog.godebug = none := by kernel_rfl
theorem readable3 : Tryz.prog.readableRec 3 = true ∧ 3 < Tryz.prog.types.size := ⟨by kernel_rfl, of_decide_eq_true (by kernel_rfl)⟩
theorem readable27 : Tryz.prog.readableRec 27 = true ∧ 27 < Tryz.prog.types.size := ⟨by kernel_rfl, of_decide_eq_true (by kernel_rfl)⟩
theorem readable68 : Tryz.prog.readableRec 68 = true ∧ 68 < Tryz.prog.types.size := ⟨by kernel_rfl, of_decide_eq_true (by kernel_rfl)⟩
theorem readable71 : Tryz.prog.readableRec 71 = true ∧ 71 < Tryz.prog.types.size := ⟨by kernel_rfl, of_decide_eq_true (by kernel_rfl)⟩
set_option maxRecDepth 100000 in
theorem lifted13 (os : Os) (started : os.Started) (H : Type) (enc : TypeId × Value → H) :
    ReturnsInHanded {} Tryz.checked os 13 .any (Rows.loanChecksSpec.pre6 enc Tryz.prog Tryz.f13 Rows.loanChecksRow.domain false) (Rows.loanChecksSpec.post enc Tryz.prog Tryz.f13 false true false false) := by
  refine returnsInHanded_of_change (C := Tryz.checked) ownKnob_none started (by kernel_rfl) Tryz.func13
    (ChangeSpec.witness6 (enc := enc) (C := Tryz.checked) false ⟨#[], #[.agg #[.int .i64 0, .int .i64 0, .slice none 0 0, .slice none 0 0, .slice none 0 0, .slice none 0 0, .slice none 0 0], .agg #[.int .i64 0, .int .i64 0, .int .i64 0], .agg #[.int .i64 0, .int .i64 0, .int .i64 0], .int .i64 0], []⟩ 8 (by kernel_rfl) (by kernel_rfl) (by kernel_rfl) (by kernel_rfl)) ?_
  intro W base args ds gs before hval0 hW hcnd _
  have hval : ∀ (j : Nat) t v, Tryz.f13.params[j]? = some t → args[j]? = some v → Value.okWide Tryz.prog W .any base t v := hval0
  have hW' := hW
  obtain ⟨p, q, hA0, hV, rfl, hfz, hnd⟩ := hW
  have hA : DataW.TrodAll enc Tryz.prog W 0 (fun _ => true) true Tryz.f13.params.toList args.toList ds p := hA0
  obtain ⟨rfl, rfl⟩ := trodVars_none hV
  have hlt : ∀ x ∈ p, x.block < W.heap.size := fun x hx => hW'.lt x (by simpa using hx)
  have hA1 := hA
  rw [Tryz.params13] at hA hval
  obtain ⟨v0, v1, v2, v3, d0, d1, d2, d3, p0, p1, p2, p3, rfl, rfl, rfl, h0, h1, h2, h3⟩ := trodAll_four hA
  obtain ⟨x0, hx0⟩ := open27 (hval 0 27 v0 rfl rfl) h0
  obtain ⟨k1a, k1b, k1c, rfl⟩ := open68 (hval 1 68 v1 rfl rfl) h1
  obtain ⟨k2a, k2b, k2c, rfl⟩ := open71 (hval 2 71 v2 rfl rfl) h2
  obtain ⟨k3, rfl, -, -, -⟩ := open_int Tryz.underlying3 (hval 3 3 v3 rfl rfl) h3
  simp only [List.append_nil] at hW'
  refine (law13 hx0 k1a k1b k1c k2a k2b k2c k3).mono fun e W' ⟨he, hb⟩ => ?_
  subst he
  exact ⟨_, rfl, post_later (pa := p0 ++ p1 ++ p2 ++ p3) (pv := []) hW' (fun _ _ _ => trodAll_mk1 (shut_bool Tryz.underlying4 _))
    (fun sp hsp => stays hb (by rw [Tryz.params13]; simp only [List.forall_mem_cons]; exact ⟨readable27, readable68, readable71, readable3, fun _ h => by simp at h⟩) hA1 hlt hsp) (fun _ _ => rfl) (by simp) hb (ok_one (by kernel_rfl) rfl (okWide_bool_mk Tryz.underlying4 _))⟩
set_option maxRecDepth 100000
theorem loanChecksF0 : (Rows.loanChecksRow.wf (OpenSpec.ofChange Rows.loanChecksSpec)) = true := by kernel_rfl
theorem loanChecksF3 : (Tryz.f13.params.all (Tryz.prog.readableRec ·)) = true := by kernel_rfl
theorem loanChecksF4 : (namedTie Tryz.prog Rows.loanChecksRow.named Rows.loanChecksSpec.vars) = true := by kernel_rfl
theorem loanChecksF5 : (Rows.loanChecksRow.stops == []) = true := by kernel_rfl
theorem loanChecksF7 : (Rows.loanChecksRow.knobs == []) = true := by kernel_rfl
theorem loanChecksF9 : (Rows.loanChecksRow.inPlace == Tryz.prog.inPlace 13) = true := by kernel_rfl
theorem loanChecksF10 : (Rows.loanChecksRow.unfollowed == Tryz.prog.unfollowed 13) = true := by kernel_rfl
theorem loanChecksF11 : (Rows.loanChecksRow.recurses == Tryz.prog.recurses 13) = true := by kernel_rfl
theorem loanChecksF12 : (Rows.loanChecksRow.named == Tryz.prog.varsNamed 13) = true := by kernel_rfl
theorem loanChecksF13 : (Rows.loanChecksRow.maps == (Tryz.f13.params.toList ++ Rows.loanChecksSpec.plain.varTypes Tryz.prog).any (Tryz.prog.mapsRec ·)) = true := by kernel_rfl
theorem loanChecksF14 : (Rows.loanChecksRow.ifaces == (Tryz.f13.params.toList ++ Rows.loanChecksSpec.plain.varTypes Tryz.prog).any (Tryz.prog.ifacesRec ·)) = true := by kernel_rfl
theorem loanChecksF15 : (Rows.loanChecksRow.mapsOut == Tryz.prog.mapsAmong Tryz.f13.resultTypes.toList) = true := by kernel_rfl
theorem loanChecksF16 : (Rows.loanChecksRow.loops == (Tryz.f13.params.toList ++ Rows.loanChecksSpec.plain.varTypes Tryz.prog).any (Tryz.prog.loopsFrom ·)) = true := by kernel_rfl
theorem loanChecksF17 : (Rows.loanChecksRow.wideKeys == (Tryz.f13.params.toList ++ Rows.loanChecksSpec.plain.varTypes Tryz.prog ++ Tryz.f13.resultTypes.toList).any (Tryz.prog.wideKeysFrom ·)) = true := by kernel_rfl
theorem loanChecksF18 : (Rows.loanChecksSpec.vars.all (Tryz.prog.varReadable ·)) = true := by kernel_rfl
theorem loanChecksF19 : (Tryz.f13.resultTypes.all (fun t => Tryz.prog.readableRec t && decide (t < Tryz.prog.types.size))) = true := by kernel_rfl
theorem loanChecksF20 : (Rows.loanChecksRow.ifacesOut == Tryz.f13.resultTypes.toList.any (Tryz.prog.ifacesRec ·)) = true := by kernel_rfl
theorem loanChecksF21 : (Rows.loanChecksRow.loopsOut == Tryz.f13.resultTypes.toList.any (Tryz.prog.loopsFrom ·)) = true := by kernel_rfl
theorem loanChecksF22 : (Rows.loanChecksRow.plainKeys == Tryz.prog.plainKeys) = true := eqT factPlain (by kernel_rfl)
theorem loanChecksF23 : (Rows.loanChecksRow.shortTexts.isNone) = true := by kernel_rfl
theorem loanChecksF26 : (Rows.loanChecksRow.lifted == Tryz.prog.liftsFinal) = true := by rw [factLifts]; kernel_rfl
theorem loanChecksF27 : (Tryz.prog.make == some Rows.loanChecksRow.make) = true := factMake
theorem loanChecksF28 : (Rows.loanChecksRow.kinds == (if Rows.loanChecksRow.domain.isEmpty then [] else Tryz.f13.params.toList.map fun t => match Tryz.prog.underlying t with | some (.int k) => some k | _ => none)) = true := by kernel_rfl
theorem loanChecksF29 : (Rows.loanChecksRow.pinned == Rows.loanChecksRow.pinnedBy) = true := by kernel_rfl
theorem loanChecksF30 : (Rows.loanChecksRow.veiled == (Tryz.f13.params.toList ++ Rows.loanChecksSpec.plain.varTypes Tryz.prog ++ Tryz.f13.resultTypes.toList).any (Tryz.prog.veiledRec ·)) = true := by kernel_rfl
theorem loanChecksF31 : (Rows.loanChecksRow.veiledFits Tryz.prog Tryz.f13.params.toList (Tryz.f13.params.toList ++ Rows.loanChecksSpec.plain.varTypes Tryz.prog ++ Tryz.f13.resultTypes.toList)) = true := by kernel_rfl
theorem loanChecksJoined : joinedFacts Tryz.prog 13 Tryz.f13 Rows.loanChecksSpec Rows.loanChecksRow = true := (andT (andT (andT (andT (andT (andT (andT (andT (andT (andT (andT (andT (andT (andT (andT (andT (andT (andT (andT (andT (andT (andT (andT (andT (andT (andT (andT (andT (andT (andT (andT loanChecksF0 fact1) fact2) loanChecksF3) loanChecksF4) loanChecksF5) fact6) loanChecksF7) fact8) loanChecksF9) loanChecksF10) loanChecksF11) loanChecksF12) loanChecksF13) loanChecksF14) loanChecksF15) loanChecksF16) loanChecksF17) loanChecksF18) loanChecksF19) loanChecksF20) loanChecksF21) loanChecksF22) loanChecksF23) fact24) fact25) loanChecksF26) loanChecksF27) loanChecksF28) loanChecksF29) loanChecksF30) loanChecksF31)
theorem loanChecks_holds : Rows.LoanChecksSaid :=
  OpenClaim.holds_of_wide 13 Tryz.f13 rfl rfl rfl rfl rfl rfl rfl ⟨rfl, rfl, rfl, rfl, rfl⟩ rfl rfl rfl rfl rfl (by kernel_rfl) Tryz.func13 loanChecksJoined
    (of_decide_eq_true (by kernel_rfl)) (by unfold Func.isWrapper; rw [if_neg (of_decide_eq_false (by kernel_rfl))]; exact ⟨rfl, rfl⟩)
    (fun os started H enc _ => lifted13 os started H enc)
#print axioms loanChecks_holds
end Go.Proofs.YtbceepjjdfpfmaaGreat
