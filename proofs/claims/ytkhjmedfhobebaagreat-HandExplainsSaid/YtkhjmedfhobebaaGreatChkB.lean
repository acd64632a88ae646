/- Walks of IsSortedFunc and CompactFunc as the program's check calls them. -/
import Derived.Test.YtkhjmedfhobebaaGreatArr
namespace Go.Proofs.YtkhjmedfhobebaaGreat
open Go.RowKit HandSpec
set_option maxHeartbeats 800000
set_option maxRecDepth 100000
def dn (g : Nat → Nat → Int) (k : Nat) : Bool := decide (g (k+1) 0 < g k 0)
theorem sorted159 {w : World} {A : Option Addr} {n cap : Nat} {g : Nat → Nat → Int} (hr : Rd w A n 3 g) (hn : n ≤ 1000) (hg : ∀ k, k < n → 0 ≤ g k 0 ∧ g k 0 ≤ 1000) :
    Calls Tryz.prog 159 #[.slice A n cap, .func (.func 160) #[] #[]] w (fun e w' => e = .returned (.bool (!anyTo (dn g) (n - 1))) ∧ Ext w w') := by
  rcases Nat.eq_zero_or_pos n with h0 | h0
  · subst h0
    go_enter Tryz.func159, Tryz.ntmps159
    go_wp2
    go_loopw [4, 5] (fun r i wr => i = .int .i64 (-1) ∧ r = .bool false ∧ Ext w wr) (fun _ _ _ => 0)
    case atStart => exact ⟨rfl, rfl, Ext.refl _⟩
    case round =>
      obtain ⟨rfl, rfl, he⟩ := hrel
      go_wp2
      go_ret
      exact ⟨rfl, he⟩
  · obtain ⟨m, rfl⟩ : ∃ m, n = m + 1 := ⟨n - 1, by omega⟩
    have HG := hid hg; clear hg
    have hcf := enters_ Tryz.func160 (by kernel_rfl) rfl
    go_enter Tryz.func159, Tryz.ntmps159
    go_wp2
    go_loopw [4, 5] (fun r i wr => ∃ k : Nat, k ≤ m ∧ i = .int .i64 k ∧ r = .bool false ∧ Hid (∀ j, k ≤ j → j < m → dn g j = false) ∧ Ext w wr) (fun _ i _ => (intOf i).toNat)
    case atStart => exact ⟨m, Nat.le_refl _, by go_num, rfl, fun _ h h' => absurd h' (by omega), Ext.refl _⟩
    case round =>
      obtain ⟨k, hk, rfl, rfl, hp, he⟩ := hrel
      rcases Nat.eq_zero_or_pos k with hz | hz
      · subst hz
        go_wp2
        go_ret
        refine ⟨ret_bool ?_, he⟩
        rw [show m + 1 - 1 = m from rfl, anyTo_false.2 fun j hj => hp.out j (Nat.zero_le _) hj]; rfl
      · obtain ⟨q, rfl⟩ : ∃ q, k = q + 1 := ⟨k - 1, by omega⟩
        obtain ⟨b, o, rfl, hb, a0, a1, a2⟩ := (hr.ext he).at3 (k := q + 1) (by omega)
        obtain ⟨_, _, hq, hb', b0, b1, b2⟩ := (hr.ext he).at3 (k := q) (by omega)
        obtain ⟨rfl, rfl⟩ := same_addr hq rfl
        have g1 := HG.out (q + 1) (by omega)
        have g2 := HG.out q (by omega)
        clear hr
        go_upto_region 4 with fail
        refine wp_region_later (by kernel_rfl) (by kernel_rfl) ?_
        repeat (go_big_quiet_step ((go_at_call 160; exact Calls.later (cmp5 _ _ _ _ _ _ _ (by omega)))))
        refine wpQuiet_nil ?_
        rintro _ ⟨⟨w2, he2⟩, rfl⟩
        by_cases hlt : g (q+1) 0 < g q 0
        · go_wp2
          go_ret
          refine ⟨ret_bool ?_, he.trans he2⟩
          have h1 : anyTo (dn g) m = true := anyTo_true.2 ⟨q, by omega, by simp [dn, hlt]⟩
          show false = !anyTo (dn g) m
          rw [h1]; rfl
        · go_wp2
          go_roundw
          case rel =>
            refine ⟨q, by omega, by go_num, rfl, hid fun j h h' => ?_, he.trans he2⟩
            rcases Nat.lt_or_ge q j with hj | hj
            · exact hp.out j hj h'
            · obtain rfl : j = q := by omega
              simp [dn, hlt]
          case measure => simp [intOf]

def sm0 (h : Nat → Int) (k : Nat) : Bool := h ((k+1)*3) == h (k*3)
/-- CompactFunc at counts in a block of one's own: only how long the result is. -/
theorem compact161 {w0 w : World} {g n cap : Nat} {h : Nat → Int} (he0 : Ext w0 w) (hB : w0.heap.size ≤ g) (ha : Arr w g (n * 3) h) (hn : n ≤ 1000) (hcap : n ≤ cap) :
    Calls Tryz.prog 161 #[.slice (some ⟨g, 0, none⟩) n cap, .func (.func 162) #[] #[]] w (fun e w' => ∃ m cap', e = .returned (.slice (some ⟨g, 0, none⟩) m cap') ∧ decide (m < n) = anyTo (sm0 h) (n - 1) ∧ Ext w0 w') := by
  have hcf := enters_ Tryz.func162 (by kernel_rfl) rfl
  have HA := hid ha; clear ha
  by_cases h2 : n < 2
  · go_enter Tryz.func161, Tryz.ntmps161
    go_wp2
    go_ret
    refine ⟨_, _, rfl, ?_, he0⟩
    rcases (show n = 0 ∨ n = 1 by omega) with rfl | rfl <;> simp [anyTo]
  · obtain ⟨m, rfl⟩ : ∃ m, n = m + 1 := ⟨n - 1, by omega⟩
    go_enter Tryz.func161, Tryz.ntmps161
    go_wp2
    go_loopw [4, 5] (fun r i wr => ∃ k : Nat, k ≤ m ∧ i = .int .i64 (k + 1 : Nat) ∧ r = .slice none 0 0 ∧ Hid (∀ j, j < k → sm0 h j = false) ∧ Ext w wr) (fun _ i _ => m + 1 - (intOf i).toNat)
    case atStart => exact ⟨0, by omega, rfl, rfl, fun _ h => absurd h (by omega), Ext.refl _⟩
    case round =>
      obtain ⟨k, hk, rfl, rfl, hp, he⟩ := hrel
      by_cases hlt : k < m
      · have a0 := (HA.out.ext he).cell (i := (k+1)*3) (by omega)
        have a1 := (HA.out.ext he).cell (i := (k+1)*3+1) (by omega)
        have a2 := (HA.out.ext he).cell (i := (k+1)*3+2) (by omega)
        have b0 := (HA.out.ext he).cell (i := k*3) (by omega)
        have b1 := (HA.out.ext he).cell (i := k*3+1) (by omega)
        have b2 := (HA.out.ext he).cell (i := k*3+2) (by omega)
        have hb := (HA.out.ext he).1
        go_upto_region 6 with fail
        refine wp_region_later (by kernel_rfl) (by kernel_rfl) ?_
        repeat (go_big_quiet_step ((go_at_call 162; exact Calls.later (eq6 _ _ _ _ _ _ _))))
        refine wpQuiet_nil ?_
        rintro _ ⟨⟨w2, he2⟩, rfl⟩
        cases hq : sm0 h k
        · have hq' : (h ((k+1)*3) == h (k*3)) = false := hq
          have HQ := hid hq; clear hq
          go_wp2
          go_roundw
          case rel => exact ⟨k+1, by omega, by go_num, rfl, anyTo_step hp.out HQ.out, he.trans he2⟩
          case measure => simp [intOf]; omega
        · have hq' : (h ((k+1)*3) == h (k*3)) = true := hq
          have HQ := hid hq; clear hq
          have A2 := hid ((HA.out.ext he).ext he2)
          clear a0 a1 a2 b0 b1 b2
          have E2 := he0.trans (he.trans he2)
          go_wp2
          go_loopw [5, 7] (fun i j wr => ∃ p q : Nat, q + 1 ≤ m - k ∧ k + 1 ≤ p ∧ p ≤ k + 1 + q ∧ i = .int .i64 p ∧ j = .int .i64 (q + 1 : Nat) ∧ (∃ h', Hid (Arr wr g ((m + 1) * 3) h')) ∧ Ext w0 wr) (fun _ j _ => m + 1 - (intOf j).toNat)
          case atStart => exact ⟨k + 1, 0, by omega, by omega, by omega, rfl, rfl, ⟨_, A2⟩, E2⟩
          case round =>
            clear he2 E2 A2
            obtain ⟨p, q, r1, r2, r3, rfl, rfl, ⟨h', A2⟩, E2⟩ := hrel
            by_cases hlt' : q + 1 < m - k
            · have a0 := A2.out.cell (i := (k+1)*3+(q+1)*3) (by omega)
              have a1 := A2.out.cell (i := (k+1)*3+(q+1)*3+1) (by omega)
              have a2 := A2.out.cell (i := (k+1)*3+(q+1)*3+2) (by omega)
              have b0 := A2.out.cell (i := (k+1)*3+q*3) (by omega)
              have b1 := A2.out.cell (i := (k+1)*3+q*3+1) (by omega)
              have b2 := A2.out.cell (i := (k+1)*3+q*3+2) (by omega)
              have hb := A2.out.1
              go_upto_region 11 with fail
              refine wp_region_later (by kernel_rfl) (by kernel_rfl) ?_
              repeat (go_big_quiet_step ((go_at_call 162; exact Calls.later (eq6 _ _ _ _ _ _ _))))
              refine wpQuiet_nil ?_
              rintro _ ⟨⟨w2, he2⟩, rfl⟩
              have A3 := hid (A2.out.ext he2)
              have E3 := E2.trans he2
              clear a0 a1 a2 b0 b1 b2 A2 E2
              cases hq2 : (h' ((k+1)*3+(q+1)*3) == h' ((k+1)*3+q*3))
              · have a0 := A3.out.cell (i := (k+1)*3+(q+1)*3) (by omega)
                have a1 := A3.out.cell (i := (k+1)*3+(q+1)*3+1) (by omega)
                have a2 := A3.out.cell (i := (k+1)*3+(q+1)*3+2) (by omega)
                have b0 := A3.out.cell (i := p*3) (by omega)
                have b1 := A3.out.cell (i := p*3+1) (by omega)
                have b2 := A3.out.cell (i := p*3+2) (by omega)
                have f0 := A3.out.frozen (i := p*3) (by omega)
                have f1 := A3.out.frozen (i := p*3+1) (by omega)
                have f2 := A3.out.frozen (i := p*3+2) (by omega)
                have hb := A3.out.1
                go_wp2
                go_roundw
                case rel => exact ⟨p + 1, q + 1, by omega, by omega, by omega, by go_num, by go_num, ⟨_, hid (((A3.out.set_ _ _ (by omega)).set_ _ _ (by omega)).set_ _ _ (by omega))⟩, ((E3.setCell _ hB).setCell _ hB).setCell _ hB⟩
                case measure => simp [intOf]; omega
              · go_wp2
                go_roundw
                case rel => exact ⟨p, q + 1, by omega, by omega, by omega, rfl, by go_num, ⟨_, A3⟩, E3⟩
                case measure => simp [intOf]; omega
            · go_wp2_with ((with_reducible refine wpList_here ⟨none, .call { callee := .builtin .clear, args := #[_], argTypes := #[22] }, _, _, _, _⟩ ?_); refine wpList_clear_arr rfl _ 22 rfl el22 (z := .agg #[.int .i64 0, .int .i64 0, .int .i64 0]) (fun _ => by kernel_rfl) rfl (g := g) (s := p * 3) (n := m + 1 - p) (cap := cap - p) rfl A2.out (by omega) ?_; intro w3 A3 E3)
              go_ret
              refine ⟨_, _, rfl, ?_, E3 _ E2 hB⟩
              rw [show m + 1 - 1 = m from rfl, anyTo_true.2 ⟨k, hlt, HQ.out⟩]; simp; omega
      · go_wp2
        go_ret
        obtain rfl : k = m := by omega
        refine ⟨_, _, rfl, ?_, he0.trans he⟩
        rw [show k + 1 - 1 = k from rfl, anyTo_false.2 hp.out]; simp
end Go.Proofs.YtkhjmedfhobebaaGreat
