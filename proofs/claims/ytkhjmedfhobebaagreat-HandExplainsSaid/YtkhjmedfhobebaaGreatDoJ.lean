/- Walks of the program: a watch that is told, a stretch of a watch, and what is asked of both. -/
import Derived.Test.YtkhjmedfhobebaaGreatDoC
import Derived.Test.YtkhjmedfhobebaaGreatDoF
namespace Go.Proofs.YtkhjmedfhobebaaGreat
open Go.RowKit HandSpec
set_option maxHeartbeats 800000
set_option maxRecDepth 100000
theorem told_err {x : WD} {w : World} {v : Value} (hv : IsW w v x) (h1 : x.cn ≤ 1000) (h2 : x.bn ≤ 1000) (h3 : x.sn ≤ 1000) (bad : Bool) (he : P.toldE x bad ≠ 0) :
    Calls Tryz.prog 120 #[v, .bool bad] w fun e w' => e = .returned (.tuple #[.pointer none, .int .i64 (P.toldE x bad)]) ∧ Ext w w' := by
  have HV := hid hv
  obtain ⟨A1, c1, A2, c2, A3, c3, rfl, r1, r2, r3⟩ := hv
  clear r1 r2 r3
  by_cases hc : P.chk x = 0
  · have hx := Ok.of_chk hc
    have HC := hid hc
    cases bad
    · cases hcl : (R.clashes x).isSome
      · simp [P.toldE, hc, hcl] at he
      · have HE : Hid (P.toldE x false = 7) := hid (by simp [P.toldE, hc, hcl])
        have HL := hid hcl
        clear hc he hcl
        go_enter Tryz.func120, Tryz.ntmps120
        go_wp2_with (first
          | (go_at_call 136; refine (opened_ok (HV.out.ext ((Ext.refl _).alloc _)) h1 h2 h3 HC.out).mono ?_; rintro e w1 ⟨u, rfl, he1, hu⟩; have hs1 := he1.size; obtain ⟨he1, hb⟩ := he1.newB; have HU := hid hu; clear hu)
          | (go_at_call 145; refine (clashesP_any hx HU.out).mono ?_; rintro e w2 ⟨rfl, he2⟩; rw [HL.out]))
        go_ret2
        rw [HE.out]
        exact ⟨rfl, he1.trans (he2.alloc _)⟩
    · have HE : Hid (P.toldE x true = 1) := hid (by simp [P.toldE, hc])
      clear hc he
      go_enter Tryz.func120, Tryz.ntmps120
      go_wp2_with (first
          | (go_at_call 136; refine (opened_ok (HV.out.ext ((Ext.refl _).alloc _)) h1 h2 h3 HC.out).mono ?_; rintro e w1 ⟨u, rfl, he1, hu⟩; obtain ⟨he1, hb⟩ := he1.newB; have HU := hid hu; clear hu))
      go_ret2
      rw [HE.out]
      exact ⟨rfl, he1⟩
  · have HC := hid hc
    have HE : Hid (P.toldE x bad = P.chk x) := hid (by simp [P.toldE, hc])
    have hne : (P.chk x == 0) = false := by simpa using hc
    clear hc he
    go_enter Tryz.func120, Tryz.ntmps120
    go_wp2_with (go_at_call 136; refine (opened_bad (HV.out.ext ((Ext.refl _).alloc _)) h1 h2 h3 HC.out).mono ?_; rintro e w1 ⟨rfl, he1⟩; obtain ⟨he1, hb⟩ := he1.newB)
    go_ret2
    rw [HE.out]
    exact ⟨rfl, he1⟩
theorem told_ok {x : WD} {w : World} {v : Value} (hv : IsW w v x) (h1 : x.cn ≤ 1000) (h2 : x.bn ≤ 1000) (h3 : x.sn ≤ 1000) (bad : Bool) (he : P.toldE x bad = 0) :
    Calls Tryz.prog 120 #[v, .bool bad] w fun e w' => ∃ u, e = .returned (.tuple #[u, .int .i64 0]) ∧ Ext w w' ∧ IsD w' u x := by
  have HV := hid hv
  obtain ⟨A1, c1, A2, c2, A3, c3, rfl, r1, r2, r3⟩ := hv
  clear r1 r2 r3
  obtain ⟨hc, rfl, hcl⟩ := P.toldE_ok he
  have hx := Ok.of_chk hc
  have HC := hid hc
  have HL := hid hcl
  clear hc he hcl
  go_enter Tryz.func120, Tryz.ntmps120
  go_wp2_with (first
    | (go_at_call 136; refine (opened_ok (HV.out.ext ((Ext.refl _).alloc _)) h1 h2 h3 HC.out).mono ?_; rintro e w1 ⟨u, rfl, he1, hu⟩; obtain ⟨he1, hb⟩ := he1.newB; have HU := hid hu; clear hu)
    | (go_at_call 145; refine (clashesP_any hx HU.out).mono ?_; rintro e w2 ⟨rfl, he2⟩; rw [HL.out]))
  go_ret2
  exact ⟨_, rfl, he1.trans (he2.alloc _), HU.out.ext (he2.alloc _)⟩
theorem str_err {x : WD} {w : World} {v : Value} (hv : IsW w v x) (h1 : x.cn ≤ 1000) (h2 : x.bn ≤ 1000) (h3 : x.sn ≤ 1000) (a b : Int) (he : P.strE x a b ≠ 0) :
    Calls Tryz.prog 137 #[v, .agg #[.int .i64 a, .int .i64 b]] w fun e w' => e = .returned (.tuple #[.pointer none, .int .i64 (P.strE x a b)]) ∧ Ext w w' := by
  have HV := hid hv
  obtain ⟨A1, c1, A2, c2, A3, c3, rfl, r1, r2, r3⟩ := hv
  clear r1 r2 r3
  by_cases hc : P.chk x = 0
  · have HC := hid hc
    cases ha : inB a 0 (x.cn - 1)
    · have Ha := hid ha
      have HE : Hid (P.strE x a b = 1) := hid (by simp [P.strE, hc, ha])
      clear hc he ha
      go_enter Tryz.func137, Tryz.ntmps137
      go_upto_region 1 with fail
      refine wp_later fun w1 hw1 => ?_
      obtain ⟨E0, B1, B2⟩ := hw1.newB2
      have k1 := B1.cell
      have k1l := B1.lt
      clear hw1
      go_wp2_with (first
        | (go_at_call 136; refine (opened_ok (HV.out.ext E0) h1 h2 h3 HC.out).mono ?_; rintro e w2 ⟨u, rfl, he2, hu⟩; have E := hid he2; have HU := hid hu; clear hu; have k1 := (B1.ext E.out).cell; have k1l := (B1.ext E.out).lt; have k2 := (B2.ext E.out).cell; have k2l := (B2.ext E.out).lt)
        | (go_at_call 146; refine (count_any (HV.out.ext (E0.trans E.out)) h1 _).mono ?_; rintro e w3 ⟨rfl, he3⟩; (first | rw [Ha.out] | rw [Hb.out]); have HU := hid (HU.out.ext he3); have E := hid (E.out.trans he3); have k1 := (B1.ext E.out).cell; have k1l := (B1.ext E.out).lt; have k2 := (B2.ext E.out).cell; have k2l := (B2.ext E.out).lt))
      go_ret2
      rw [HE.out]
      exact ⟨rfl, E0.trans E.out⟩
    · cases hb : inB b 0 (x.cn - 1)
      · have Ha := hid ha
        have Hb := hid hb
        have HE : Hid (P.strE x a b = 1) := hid (by simp [P.strE, hc, hb])
        clear hc he ha hb
        go_enter Tryz.func137, Tryz.ntmps137
        go_upto_region 1 with fail
        refine wp_later fun w1 hw1 => ?_
        obtain ⟨E0, B1, B2⟩ := hw1.newB2
        have k1 := B1.cell
        have k1l := B1.lt
        clear hw1
        go_wp2_with (first
          | (go_at_call 136; refine (opened_ok (HV.out.ext E0) h1 h2 h3 HC.out).mono ?_; rintro e w2 ⟨u, rfl, he2, hu⟩; have E := hid he2; have HU := hid hu; clear hu; have k1 := (B1.ext E.out).cell; have k1l := (B1.ext E.out).lt; have k2 := (B2.ext E.out).cell; have k2l := (B2.ext E.out).lt)
          | (go_at_call 146; refine (count_any (HV.out.ext (E0.trans E.out)) h1 _).mono ?_; rintro e w3 ⟨rfl, he3⟩; (first | rw [Ha.out] | rw [Hb.out]); have HU := hid (HU.out.ext he3); have E := hid (E.out.trans he3); have k1 := (B1.ext E.out).cell; have k1l := (B1.ext E.out).lt; have k2 := (B2.ext E.out).cell; have k2l := (B2.ext E.out).lt))
        go_ret2
        rw [HE.out]
        exact ⟨rfl, E0.trans E.out⟩
      · have Ha := hid ha
        have Hb := hid hb
        by_cases hba : b ≤ a
        · have HE : Hid (P.strE x a b = 4) := hid (by simp [P.strE, hc, ha, hb, hba])
          clear hc he ha hb
          go_enter Tryz.func137, Tryz.ntmps137
          go_upto_region 1 with fail
          refine wp_later fun w1 hw1 => ?_
          obtain ⟨E0, B1, B2⟩ := hw1.newB2
          have k1 := B1.cell
          have k1l := B1.lt
          clear hw1
          go_wp2_with (first
            | (go_at_call 136; refine (opened_ok (HV.out.ext E0) h1 h2 h3 HC.out).mono ?_; rintro e w2 ⟨u, rfl, he2, hu⟩; have E := hid he2; have HU := hid hu; clear hu; have k1 := (B1.ext E.out).cell; have k1l := (B1.ext E.out).lt; have k2 := (B2.ext E.out).cell; have k2l := (B2.ext E.out).lt)
            | (go_at_call 146; refine (count_any (HV.out.ext (E0.trans E.out)) h1 _).mono ?_; rintro e w3 ⟨rfl, he3⟩; (first | rw [Ha.out] | rw [Hb.out]); have HU := hid (HU.out.ext he3); have E := hid (E.out.trans he3); have k1 := (B1.ext E.out).cell; have k1l := (B1.ext E.out).lt; have k2 := (B2.ext E.out).cell; have k2l := (B2.ext E.out).lt))
          go_ret2
          rw [HE.out]
          exact ⟨rfl, E0.trans E.out⟩
        · exact absurd (by simp [P.strE, hc, ha, hb, hba]) he
  · have HC := hid hc
    have HE : Hid (P.strE x a b = P.chk x) := hid (by simp [P.strE, hc])
    have hne : (P.chk x == 0) = false := by simpa using hc
    clear hc he
    go_enter Tryz.func137, Tryz.ntmps137
    go_upto_region 1 with fail
    refine wp_later fun w1 hw1 => ?_
    obtain ⟨E0, B1, B2⟩ := hw1.newB2
    have k1 := B1.cell
    have k1l := B1.lt
    clear hw1
    go_wp2_with (go_at_call 136; refine (opened_bad (HV.out.ext E0) h1 h2 h3 HC.out).mono ?_; rintro e w1 ⟨rfl, he1⟩)
    go_ret2
    rw [HE.out]
    exact ⟨rfl, E0.trans he1⟩
theorem strE_ok {x : WD} {a b : Int} (h : P.strE x a b = 0) : P.chk x = 0 ∧ inB a 0 (x.cn - 1) = true ∧ inB b 0 (x.cn - 1) = true ∧ a < b := by
  unfold P.strE at h
  by_cases h1 : P.chk x = 0
  · cases h2 : inB a 0 (x.cn - 1) <;> cases h3 : inB b 0 (x.cn - 1) <;> by_cases h4 : b ≤ a <;> simp [h1, h2, h3, h4] at h
    exact ⟨h1, rfl, rfl, by omega⟩
  · simp [h1] at h
theorem str_ok {x : WD} {w : World} {v : Value} (hv : IsW w v x) (h1 : x.cn ≤ 1000) (h2 : x.bn ≤ 1000) (h3 : x.sn ≤ 1000) (a b : Int) (he : P.strE x a b = 0) :
    Calls Tryz.prog 137 #[v, .agg #[.int .i64 a, .int .i64 b]] w fun e w' => ∃ u, e = .returned (.tuple #[u, .int .i64 0]) ∧ Ext w w' ∧ IsD w' u x := by
  have HV := hid hv
  obtain ⟨A1, c1, A2, c2, A3, c3, rfl, r1, r2, r3⟩ := hv
  clear r1 r2 r3
  obtain ⟨hc, ha, hb, hab⟩ := strE_ok he
  have HC := hid hc
  have Ha := hid ha
  have Hb := hid hb
  have hba : ¬ b ≤ a := by omega
  clear hc he ha hb
  go_enter Tryz.func137, Tryz.ntmps137
  go_upto_region 1 with fail
  refine wp_later fun w1 hw1 => ?_
  obtain ⟨E0, B1, B2⟩ := hw1.newB2
  have k1 := B1.cell
  have k1l := B1.lt
  clear hw1
  go_wp2_with (first
    | (go_at_call 136; refine (opened_ok (HV.out.ext E0) h1 h2 h3 HC.out).mono ?_; rintro e w2 ⟨u, rfl, he2, hu⟩; have E := hid he2; have HU := hid hu; clear hu; have k1 := (B1.ext E.out).cell; have k1l := (B1.ext E.out).lt; have k2 := (B2.ext E.out).cell; have k2l := (B2.ext E.out).lt)
    | (go_at_call 146; refine (count_any (HV.out.ext (E0.trans E.out)) h1 _).mono ?_; rintro e w3 ⟨rfl, he3⟩; (first | rw [Ha.out] | rw [Hb.out]); have HU := hid (HU.out.ext he3); have E := hid (E.out.trans he3); have k1 := (B1.ext E.out).cell; have k1l := (B1.ext E.out).lt; have k2 := (B2.ext E.out).cell; have k2l := (B2.ext E.out).lt))
  go_ret2
  exact ⟨_, rfl, E0.trans E.out, HU.out⟩
end Go.Proofs.YtkhjmedfhobebaaGreat
