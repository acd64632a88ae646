/- Walk of Groups (61). -/
import Derived.Test.YtbceepjjdfpfmaaGreatGrpC
namespace Go.Proofs.YtbceepjjdfpfmaaGreat
open Go.RowKit HandSpec
set_option maxHeartbeats 2000000
set_option maxRecDepth 100000
theorem groups61 {w : World} {A : Option Addr} {n cap : Nat} {m : Nat → Nat} {g : Nat → Nat → Int} (hr : RdN w A n m g) (hn : n ≤ 1000) (hm : ∀ k, k < n → m k ≤ 1000) :
    Calls Tryz.prog 61 #[.slice A n cap] w (fun e w' => ∃ u, e = .returned (.tuple #[u, .int .i64 (chkD n m g)]) ∧ Ext w w' ∧ (chkD n m g ≠ 0 → u = .slice none 0 0) ∧ (chkD n m g = 0 → ∃ L', L'.Perm (groupsM (netTo g n n) n) ∧ SortedS L' ∧ RdF w' w.heap.size u L')) := by
  have HR := hid hr
  have HM := hid hm
  clear hr hm
  obtain ⟨s, hs⟩ : ∃ s, Hid (chkD n m g = s) := ⟨_, hid rfl⟩
  rw [hs.out]
  by_cases h0 : s = 0
  · subst h0
    obtain ⟨hd, hsq⟩ := chkD_zero hs.out
    have hR := HR.out.congr (m' := fun _ => n) (g' := g) fun k hk => ⟨hsq k hk, fun _ _ => rfl⟩
    have HR2 := hid hR
    have HD := hid hd
    clear hR hd hsq
    go_enter Tryz.func61, Tryz.ntmps61
    go_wp2_with (first | (go_at_call 33; refine (checkDebts33 HR.out hn HM.out).mono ?_; rintro e w1 ⟨rfl, he1⟩; rw [hs.out]; have E1 := hid he1; clear he1) | (go_at_call 140; refine (groups140 (HR2.out.ext E1.out) HD.out).mono ?_; rintro e w2 ⟨u, rfl, he2, hX⟩; have HX := hid hX; clear hX))
    go_ret2
    exact ⟨_, rfl, E1.out.trans he2, fun h => absurd rfl h, fun _ => by
      obtain ⟨L', x1, x2, x3⟩ := HX.out
      exact ⟨L', x1, x2, x3.base E1.out.size⟩⟩
  · have hne : (s != 0) = true := by simpa using h0
    go_enter Tryz.func61, Tryz.ntmps61
    go_wp2_with (go_at_call 33; refine (checkDebts33 HR.out hn HM.out).mono ?_; rintro e w1 ⟨rfl, he1⟩; rw [hs.out])
    go_ret2
    exact ⟨_, rfl, he1, fun _ => rfl, fun h => absurd h h0⟩
end Go.Proofs.YtbceepjjdfpfmaaGreat
