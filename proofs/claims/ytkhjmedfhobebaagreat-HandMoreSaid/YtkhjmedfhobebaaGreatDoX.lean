/- Walks of what the program exports about a watch: errors, and answers. -/
import Derived.Test.YtkhjmedfhobebaaGreatDoI
namespace HandSpec
namespace P
/-- What stretches prove of some hands. -/
def proved (x : WD) (m : Nat) : Int := if noOwn x m then 0 else (best x m (x.cn - 1)).sum
/-- The stretches that prove it, in some order. -/
def proof (x : WD) (m : Nat) : List (Nat × Nat) := if noOwn x m then [] else chain (best x m) x.cn (x.cn - 1)
end P
end HandSpec
namespace Go.Proofs.YtkhjmedfhobebaaGreat
open Go.RowKit HandSpec
set_option maxHeartbeats 800000
set_option maxRecDepth 100000
theorem prove_any {x : WD} (hx : Ok x) {w : World} {v : Value} (hv : IsD w v x) {m : Nat} (hm : m < 64) :
  Calls Tryz.prog 122 #[v, .int .i64 (m : Int)] w fun e w' => ∃ u l', e = .returned (.tuple #[u, .int .i64 (P.proved x m)]) ∧ Ext w w' ∧ l'.Perm (P.proof x m) ∧ SortedTo l' l'.length ∧ OwnR w' w.heap.size 51 2 u (rows2 l') := by
 cases hn : P.noOwn x m
 ·refine (prove_some hx hv hm hn).mono ?_
  rintro e w' ⟨u, l', rfl, he, hp, hs, hr⟩
  exact ⟨u, l', by simp [P.proved, hn], he, by simpa [P.proof, hn] using hp, hs, hr⟩
 ·refine (prove_none hx hv hm hn).mono ?_
  rintro e w' ⟨rfl, he⟩
  exact ⟨.slice none 0 0, [], by simp [P.proved, hn], he, by simp [P.proof, hn], fun a b _ h => by simp at h, OwnR.nil⟩
theorem smallestX_ok {x : WD} {w : World} {v : Value} (hv : IsW w v x) (h1 : x.cn ≤ 1000) (h2 : x.bn ≤ 1000) (h3 : x.sn ≤ 1000) (hc : P.chk x = 0) :
  Calls Tryz.prog 48 #[v] w fun e w' => ∃ u, e = .returned (.tuple #[u, .int .i64 0]) ∧ Ext w w' ∧ SlR w' 2 u (rows2 (P.smallest x)) := by
 have HV := hid hv
 obtain ⟨A1, c1, A2, c2, A3, c3, rfl, r1, r2, r3⟩ := hv
 clear r1 r2 r3
 have hx := Ok.of_chk hc
 have HC := hid hc
 clear hc
 go_enter Tryz.func48, Tryz.ntmps48
 go_wp2_with (first
  | (go_at_call 136; refine (opened_ok (HV.out.ext ((Ext.refl _).alloc _)) h1 h2 h3 HC.out).mono ?_; rintro e w1 ⟨u, rfl, he1, hu⟩; obtain ⟨he1, hb⟩ := he1.newB; have HU := hid hu; clear hu)
  | (go_at_call 143; refine (smallestP_any hx HU.out).mono ?_; rintro e w2 ⟨va, rfl, he2, hp⟩))
 go_ret2
 exact ⟨_, rfl, he1.trans he2, hp.slR⟩
theorem clashesX_ok {x : WD} {w : World} {v : Value} (hv : IsW w v x) (h1 : x.cn ≤ 1000) (h2 : x.bn ≤ 1000) (h3 : x.sn ≤ 1000) (hc : P.chk x = 0) {s : Nat × Nat} (hs : R.clashes x = some s) :
  Calls Tryz.prog 50 #[v] w fun e w' => e = .returned (.tuple #[.agg #[.int .i64 (s.1 : Int), .int .i64 (s.2 : Int)], .int .i64 0]) ∧ Ext w w' := by
 have HV := hid hv
 obtain ⟨A1, c1, A2, c2, A3, c3, rfl, r1, r2, r3⟩ := hv
 clear r1 r2 r3
 have hx := Ok.of_chk hc
 have HC := hid hc
 have HS := hid hs
 clear hc hs
 go_enter Tryz.func50, Tryz.ntmps50
 go_upto_region 1 with fail
 refine wp_later fun w0 hw0 => ?_
 obtain ⟨E0, b1, b2⟩ := hw0.newB2
 have k1 := b1.cell
 have k1l := b1.lt
 clear hw0
 go_wp2_with (first
  | (go_at_call 136; refine (opened_ok (HV.out.ext E0) h1 h2 h3 HC.out).mono ?_; rintro e w1 ⟨u, rfl, he1, hu⟩; have HU := hid hu; clear hu; have k2 := (b2.ext he1).cell; have k2l := (b2.ext he1).lt; have f2 := (b2.ext he1).frozen)
  | (go_at_call 145; refine (clashesP_any hx HU.out).mono ?_; rintro e w2 ⟨rfl, he2⟩; rw [HS.out]; have k2 := ((b2.ext he1).ext he2).cell; have k2l := ((b2.ext he1).ext he2).lt; have f2 := ((b2.ext he1).ext he2).frozen))
 exact bodyPost_ret (v := .tuple #[.agg #[.int .i64 (s.1 : Int), .int .i64 (s.2 : Int)], .int .i64 0]) (by simp [results, Tryz.results50, go_sem, k2, k2l]) rfl ⟨rfl, (((E0.trans (he1.trans he2)).setCell _ (by simp)).setCell _ (by simp)).alloc _⟩
theorem missing_ok {x : WD} {w : World} {v : Value} (hv : IsW w v x) (h1 : x.cn ≤ 1000) (h2 : x.bn ≤ 1000) (h3 : x.sn ≤ 1000) (he : P.toldE x false = 0) :
  Calls Tryz.prog 27 #[v] w fun e w' => e = .returned (.tuple #[.int .i64 (P.proved x (2 ^ x.hands.toNat - 1)), .int .i64 0]) ∧ Ext w w' := by
 have HV := hid hv
 obtain ⟨A1, c1, A2, c2, A3, c3, rfl, r1, r2, r3⟩ := hv
 clear r1 r2 r3
 have hx := Ok.of_chk (P.toldE_ok he).1
 have HE := hid he
 clear he
 have hh := hx.hands
 have hm : 2 ^ x.hands.toNat - 1 < 64 := by
  have : 2 ^ x.hands.toNat ≤ 64 := Nat.pow_le_pow_right (n := 2) (by omega) (show x.hands.toNat ≤ 6 by omega)
  have := Nat.two_pow_pos x.hands.toNat
  omega
 have hw4 := wrap2' (i := x.hands.toNat) (by omega)
 have hp := fun (w' : World) (u : Value) (hu : IsD w' u x) => prove_any hx hu hm
 have hcst : ((2 ^ x.hands.toNat - 1 : Nat) : Int) = (2 : Int) ^ x.hands.toNat - 1 := by
  have := Nat.two_pow_pos x.hands.toNat
  rw [Int.natCast_sub (by omega), Int.natCast_pow]; rfl
 rw [hcst] at hp
 have hb : (2 : Int) ^ x.hands.toNat ≤ 64 := by
  have : 2 ^ x.hands.toNat ≤ 64 := Nat.pow_le_pow_right (n := 2) (by omega) (show x.hands.toNat ≤ 6 by omega)
  have h := Int.ofNat_le.2 this
  rw [Int.natCast_pow] at h
  exact h
 have hb0 : (0 : Int) ≤ (2 : Int) ^ x.hands.toNat := Int.pow_nonneg (by decide)
 have HP := hid hp
 clear hp hcst hm
 go_enter Tryz.func27, Tryz.ntmps27
 go_wp2_with (first
  | (go_at_call 120; refine (told_ok (HV.out.ext ((Ext.refl _).alloc _)) h1 h2 h3 false HE.out).mono ?_; rintro e w1 ⟨u, rfl, he1, hu⟩; obtain ⟨he1, hb1⟩ := he1.newB; have kb := hb1.cell; have kbl := hb1.lt; have HU := hid hu; clear hu)
  | (go_at_call 122; refine (HP.out _ _ HU.out).mono ?_; rintro e w2 ⟨va, l', rfl, he2, -, -, -⟩))
 go_ret2
 exact ⟨rfl, he1.trans he2⟩
theorem least_ok {x : WD} {w : World} {v : Value} (hv : IsW w v x) (h1 : x.cn ≤ 1000) (h2 : x.bn ≤ 1000) (h3 : x.sn ≤ 1000) {h : Nat} (hh : (h : Int) < x.hands) (he : P.toldE x false = 0) :
  Calls Tryz.prog 25 #[v, .int .i64 (h : Int)] w fun e w' => e = .returned (.tuple #[.int .i64 (P.proved x (2 ^ h)), .int .i64 0]) ∧ Ext w w' := by
 have HV := hid hv
 obtain ⟨A1, c1, A2, c2, A3, c3, rfl, r1, r2, r3⟩ := hv
 clear r1 r2 r3
 have hx := Ok.of_chk (P.toldE_ok he).1
 have hhd := hx.hands
 have hinb : inB (h : Int) 0 (wrap64 (x.hands - 1)) = true := by rw [IntWalk.wrap64_in _ (by omega)]; simp [inB]; omega
 have HI := hid hinb
 have HE := hid he
 clear he hinb
 have hm : 2 ^ h < 64 := Nat.pow_lt_pow_right (a := 2) (n := 6) (by omega) (by omega)
 have hw4 := wrap2 (i := h) (by omega)
 have hp := fun (w' : World) (u : Value) (hu : IsD w' u x) => prove_any hx hu hm
 rw [Int.natCast_pow] at hp
 have HP := hid hp
 clear hp hm
 go_enter Tryz.func25, Tryz.ntmps25
 go_upto_region 1 with fail
 refine wp_later fun w0 hw0 => ?_
 obtain ⟨E0, b1⟩ := hw0.newB
 have k1 := b1.cell
 have k1l := b1.lt
 clear hw0
 go_region_held3 (fun wz => Ext w0 wz ∧ ∀ b o, (w0.cell? ⟨b, o, none⟩).isSome = true → wz.cell? ⟨b, o, none⟩ = w0.cell? ⟨b, o, none⟩) (exact Ext.sees (by repeat (first | exact Ext.refl _ | assumption | refine Ext.drew ?_ | refine Ext.alloc ?_ _)))
  (first
   | (go_at_call 121; refine (hand_any (HV.out.ext (E0.trans (by repeat (first | exact Ext.refl _ | assumption | refine Ext.drew ?_)))) (h : Int)).mono ?_; rintro e w5 ⟨rfl, he5⟩; rw [HI.out]; have hx5 : Ext w0 w5 := Ext.trans (by repeat (first | exact Ext.refl _ | refine Ext.drew ?_)) he5)
   | (go_at_call 120; refine (told_ok (HV.out.ext (E0.trans (by repeat (first | exact Ext.refl _ | assumption | refine Ext.drew ?_)))) h1 h2 h3 false HE.out).mono ?_; rintro e w1 ⟨u, rfl, he1, hu⟩; have HU := hid hu; clear hu; have hx1 : Ext w0 w1 := Ext.trans (by repeat (first | exact Ext.refl _ | assumption | refine Ext.drew ?_)) he1))
 go_wp2_with (first
  | (go_at_call 122; refine (HP.out _ _ HU.out).mono ?_; rintro e w2 ⟨va, l', rfl, he2, -, -, -⟩))
 go_ret2
 exact ⟨rfl, E0.trans (hx1.trans he2)⟩
end Go.Proofs.YtkhjmedfhobebaaGreat
