/- Walks: is a number in a list; is a hand there between two counts of a list of hours. -/
import Derived.Test.YtkhjmedfhobebaaGreatGenA
namespace Go.Proofs.YtkhjmedfhobebaaGreat
open Go.RowKit HandSpec
set_option maxHeartbeats 800000
set_option maxRecDepth 100000
theorem index188 {w : World} {A : Option Addr} {n cap : Nat} {g : Nat → Nat → Int} (hr : Rd w A n 1 g) (hn : n ≤ 1000) (z : Int) :
    Calls Tryz.prog 188 #[.slice A n cap, .int .i64 z] w fun e w' => e = .returned (.int .i64 (firstI (fun k => z == g k 0) n)) ∧ Ext w w' := by
  go_enter Tryz.func188, Tryz.ntmps188
  go_wp2
  go_loopw [4, 5, 8] (fun r _ i wr => ∃ k : Nat, k ≤ n ∧ i = .int .i64 k ∧ r = .int .i64 0 ∧ Hid (∀ j, j < k → (z == g j 0) = false) ∧ Ext w wr) (fun _ _ i _ => n - (intOf i).toNat)
  case atStart => exact ⟨0, Nat.zero_le _, rfl, rfl, fun _ h => absurd h (by omega), Ext.refl _⟩
  case round =>
    obtain ⟨k, hk, rfl, rfl, hp, he⟩ := hrel
    by_cases hlt : k < n
    · obtain ⟨b, o, rfl, hb, h0⟩ := (hr.ext he).at1 hlt
      cases hq : (z == g k 0)
      all_goals
        go_wp2_with fail
      · go_roundw
        case rel => exact ⟨k+1, by omega, by go_num, rfl, anyTo_step hp.out hq, he⟩
        case measure => simp [intOf]; omega
      · go_ret
        exact ⟨ret_int (firstI_yes hlt hp.out hq).symm, he⟩
    · go_wp2_with fail
      go_ret
      have : k = n := by omega
      subst this
      exact ⟨ret_int (firstI_no hp.out).symm, he⟩
theorem contains87 {w : World} {A : Option Addr} {n cap : Nat} {g : Nat → Nat → Int} (hr : Rd w A n 1 g) (hn : n ≤ 1000) (z : Int) :
    Calls Tryz.prog 87 #[.slice A n cap, .int .i64 z] w fun e w' => e = .returned (.bool (anyTo (fun k => z == g k 0) n)) ∧ Ext w w' := by
  have hf := firstI_any (fun k => z == g k 0) n
  have HF := hid hf; clear hf
  go_enter Tryz.func87, Tryz.ntmps87
  go_wp2_with (go_at_call 188; refine (index188 hr hn z).mono ?_; rintro e w1 ⟨rfl, he1⟩)
  go_ret
  exact ⟨ret_bool HF.out, he1⟩
/-- A spell is a hand's, and lies between two hours that follow each other. -/
def hereB (h : Int) (gH : Nat → Nat → Int) (k : Nat) (a f t : Int) : Bool := (a == h) && (decide (f < gH (k+1) 0) && decide (gH k 0 < t))
theorem run183 (a f t h : Int) {w : World} {b20 b11 b16 n cap k : Nat} {A : Option Addr} {gH : Nat → Nat → Int} (hk : k + 1 < n) (h20 : Blk w b20 3 #[.int .i64 h]) (h11 : Blk w b11 56 #[.slice A n cap]) (h16 : Blk w b16 3 #[.int .i64 ((k : Int) + 1)]) (hr : Rd w A n 1 gH) (hn : n ≤ 1000) :
    Calls Tryz.prog 183 #[.agg #[.int .i64 a, .int .i64 f, .int .i64 t], .pointer (some ⟨b20, 0, none⟩), .pointer (some ⟨b11, 0, none⟩), .pointer (some ⟨b16, 0, none⟩)] w fun e w' => e = .returned (.bool (hereB h gH k a f t)) ∧ Ext w w' := by
  obtain ⟨b, o, hA, hbl, c1⟩ := hr.at1 hk
  obtain ⟨b', o', hA', -, c0⟩ := hr.at1 (show k < n by omega)
  obtain ⟨rfl, rfl⟩ : b' = b ∧ o' = o := by rw [hA] at hA'; simpa using hA'.symm
  subst hA
  clear hA'
  have l20 := h20.lt
  have l11 := h11.lt
  have l16 := h16.lt
  obtain ⟨u, hu⟩ : ∃ u, u = gH k 0 := ⟨_, rfl⟩
  obtain ⟨v, hv⟩ : ∃ v, v = gH (k+1) 0 := ⟨_, rfl⟩
  have HH := hid (show hereB h gH k a f t = ((a == h) && (decide (f < v) && decide (u < t))) by unfold hereB; rw [hu, hv])
  rw [← hu] at c0
  rw [← hv] at c1
  clear hu hv hr
  cases q0 : (a == h) <;> cases q1 : decide (f < v) <;> cases q2 : decide (u < t)
  all_goals
    go_enter Tryz.func183, Tryz.ntmps183
    go_wp2
    refine wp_later fun w1 hw1 => ?_
    obtain ⟨he, hb3⟩ := hw1.newB
    have k3 := hb3.cell
    have k3l := hb3.lt
    have k20 := (h20.ext he).cell
    have k11 := (h11.ext he).cell
    have k16 := (h16.ext he).cell
    replace c0 := he.some_ c0
    replace c1 := he.some_ c1
    have hsz := he.size
    clear hw1
    refine wp_region_later (by kernel_rfl) (by kernel_rfl) ?_
    repeat (go_big_quiet_step (fail))
    refine wpQuiet_nil ?_
    rintro _ ⟨⟨w2, he2⟩, rfl⟩
    go_wp2
    go_ret
    refine ⟨ret_bool ?_, he.trans he2⟩
    rw [HH.out, q0, q1, q2]; rfl
theorem asks183 {w : World} {b20 b11 b16 n cap k m : Nat} {A : Option Addr} {h : Int} {gH g : Nat → Nat → Int} (hk : k + 1 < n) (h20 : Blk w b20 3 #[.int .i64 h]) (h11 : Blk w b11 56 #[.slice A n cap]) (h16 : Blk w b16 3 #[.int .i64 ((k : Int) + 1)]) (hr : Rd w A n 1 gH) (hn : n ≤ 1000) :
    Asks w (.func (.func 183) #[] #[.pointer (some ⟨b20, 0, none⟩), .pointer (some ⟨b11, 0, none⟩), .pointer (some ⟨b16, 0, none⟩)]) m (enc3 g) (fun q => hereB h gH k (g q 0) (g q 1) (g q 2)) :=
  ⟨_, _, rfl, enters_ Tryz.func183 (by kernel_rfl) rfl, fun q _ w' e => run183 _ _ _ h hk (h20.ext e) (h11.ext e) (h16.ext e) (hr.ext e) hn⟩
end Go.Proofs.YtkhjmedfhobebaaGreat
