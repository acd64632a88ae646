/- Walk of the program's net (108) and Net (32). The debts are right ones, or Net answers with the error. -/
import Derived.Test.YtbceepjjdfpfmaaGreatGenD
import Derived.Test.YtbceepjjdfpfmaaGreatApp
namespace Go.Proofs.YtbceepjjdfpfmaaGreat
open Go.RowKit HandSpec
set_option maxHeartbeats 2000000
set_option maxRecDepth 100000
/-- Right debts of n farmers. -/
structure DOk (n : Nat) (g : Nat → Nat → Int) : Prop where
  hn : 1 ≤ n ∧ n ≤ 7
  hd : ∀ i j, i < n → j < n → 0 ≤ g i j ∧ g i j ≤ 1000000
  h0 : ∀ i, i < n → g i i = 0
theorem chkD_zero {n : Nat} {m : Nat → Nat} {g : Nat → Nat → Int} (h : chkD n m g = 0) : DOk n g ∧ ∀ k, k < n → m k = n := by
  unfold chkD at h
  by_cases c1 : inB (n : Int) 1 7 = false ∨ sqB n m = false
  · rw [if_pos c1] at h; cases h
  rw [if_neg c1] at h
  by_cases c2 : entB n m g = false
  · rw [if_pos c2] at h; cases h
  rw [if_neg c2] at h
  by_cases c3 : anyTo (fun k => !(g k k == 0)) n
  · rw [if_pos c3] at h; cases h
  have d1 : inB (n : Int) 1 7 = true := by
    cases q : inB (n : Int) 1 7
    · exact absurd (.inl q) c1
    · rfl
  have hsq : ∀ k, k < n → m k = n := fun k hk => by
    have : sqB n m = true := by
      cases q : sqB n m
      · exact absurd (.inr q) c1
      · rfl
    unfold sqB at this
    have := anyTo_false.1 (by simpa using this) k hk
    simpa using this
  refine ⟨⟨by simp [inB] at d1; omega, fun i j hi hj => ?_, fun i hi => ?_⟩, hsq⟩
  · have : entB n m g = true := by simpa using c2
    unfold entB at this
    have := anyTo_false.1 (by simpa using this) i hi
    have := anyTo_false.1 this j (by rw [hsq i hi]; exact hj)
    simpa [inB] using this
  · have := anyTo_false.1 (by simpa using c3) i hi
    simpa using this
/-- What row k's first j debts make of these nets. -/
def netRow (g : Nat → Nat → Int) (k : Nat) : Nat → (Nat → Int) → Nat → Int
  | 0, f => f
  | j + 1, f => upd (upd (netRow g k j f) j (netRow g k j f j + g k j)) k (upd (netRow g k j f) j (netRow g k j f j + g k j) k - g k j)
/-- What each one is owed in all, less what they owe, by the first k rows. -/
def netTo (g : Nat → Nat → Int) (n : Nat) : Nat → Nat → Int
  | 0 => fun _ => 0
  | k + 1 => netRow g k n (netTo g n k)
theorem netRow_bd {n : Nat} {g : Nat → Nat → Int} (hd : ∀ i j, i < n → j < n → 0 ≤ g i j ∧ g i j ≤ 1000000) {k : Nat} (hk : k < n) {B : Int} (f : Nat → Int) (hf : ∀ i, -B ≤ f i ∧ f i ≤ B) :
    ∀ j, j ≤ n → ∀ i, -(B + j * 1000000) ≤ netRow g k j f i ∧ netRow g k j f i ≤ B + j * 1000000
  | 0, _, i => by have := hf i; simp only [netRow]; omega
  | j + 1, hj, i => by
    have ih := netRow_bd hd hk f hf j (by omega)
    have hz := hd k j hk (by omega)
    have h1 := ih i
    have h2 := ih j
    have h3 := ih k
    simp only [netRow, upd]
    push_cast
    split
    · split <;> omega
    · split <;> omega
theorem netTo_bd {n : Nat} {g : Nat → Nat → Int} (hd : ∀ i j, i < n → j < n → 0 ≤ g i j ∧ g i j ≤ 1000000) (hn : n ≤ 7) : ∀ k, k ≤ n → ∀ i, -((k : Int) * 7000000) ≤ netTo g n k i ∧ netTo g n k i ≤ (k : Int) * 7000000
  | 0, _, i => by simp [netTo]
  | k + 1, hk, i => by
    have := netRow_bd hd (k := k) (by omega) (netTo g n k) (netTo_bd hd hn k (by omega)) n (Nat.le_refl _) i
    simp only [netTo]
    push_cast
    omega
/-- A call hands back an own list of n numbers. -/
def LstP (w : World) (n : Nat) (f : Nat → Int) (e : Ending) (w' : World) : Prop := ∃ g, e = .returned (.slice (some ⟨g, 0, none⟩) n n) ∧ Ext w w' ∧ w.heap.size ≤ g ∧ ArrB w' g 3 n f
theorem net108 {w : World} {A : Option Addr} {n cap : Nat} {g : Nat → Nat → Int} (hr : RdN w A n (fun _ => n) g) (hd : DOk n g) :
    Calls Tryz.prog 108 #[.slice A n cap] w (LstP w n (netTo g n n)) := by
  obtain ⟨hn, hb, -⟩ := hd
  obtain ⟨B, C, h1, h2⟩ := hr
  have H1 := hid h1
  have H2 := hid h2
  have HB := hid hb
  clear h1 h2 hb
  have hmk2 : ∀ w, (Instr.makeSlice 22 (.int .i64 (n : Int)) (.int .i64 (n : Int))).run Tryz.prog w = .ok (.slice (some ⟨w.heap.size, 0, none⟩) n n) (w.alloc (.cells (Array.replicate n (.int .i64 0)) 3)) := fun w => make22_run w n (by omega)
  go_enter Tryz.func108, Tryz.ntmps108
  go_upto_region 2 with fail
  refine wp_later fun w1 hw1 => ?_
  obtain ⟨E1, b1⟩ := hw1.newB
  have hR0 : ArrB w1 w.heap.size 3 n (fun _ => 0) := ⟨_, b1, fun i hi => by simp [hi]⟩
  clear hw1 b1
  have HA := hid hR0
  have E1 := hid E1
  clear hR0
  obtain ⟨G, hG⟩ : ∃ G, Hid (G = w.heap.size) := ⟨_, hid rfl⟩
  rw [← hG.out] at HA ⊢
  go_upto_region 3 with fail
  go_loopw [13] (fun i wr => ∃ k : Nat, k ≤ n ∧ i = .int .i64 k ∧ Hid (ArrB wr G 3 n (netTo g n k)) ∧ Ext w wr) (fun i _ => n - (intOf i).toNat)
  case atStart => exact ⟨0, Nat.zero_le _, rfl, HA, E1.out⟩
  case round =>
    obtain ⟨k, hk, rfl, hA, he⟩ := hrel
    by_cases hlt : k < n
    · obtain ⟨b, o, rfl, hb, hc⟩ := (H1.out.ext he).at_ hlt
      go_upto_region 6 with fail
      obtain ⟨W0, rfl⟩ : ∃ W0 : World, W0 = wr := ⟨_, rfl⟩
      clear hb hc
      have h2k := H2.out k hlt
      obtain ⟨b1, o1, hB, -, -⟩ := h2k.at1 (show 0 < n by omega)
      rw [hB] at h2k ⊢
      have h2k := hid h2k
      clear hB
      go_loopw [20] (fun i ws => ∃ j : Nat, j ≤ n ∧ i = .int .i64 j ∧ Hid (ArrB ws G 3 n (netRow g k j (netTo g n k))) ∧ Ext w ws) (fun i _ => n - (intOf i).toNat)
      case atStart => exact ⟨0, Nat.zero_le _, rfl, hA, he⟩
      case round =>
        obtain ⟨j, hj, rfl, hA, he⟩ := hrel
        by_cases hlj : j < n
        · obtain ⟨b2, o2, hB2, hb1, hc1⟩ := (h2k.out.ext he).at1 hlj
          cases hB2
          have cj := hA.out.cell hlj
          have fj := hA.out.frozen j
          have Gl := hA.out.lt
          obtain ⟨z, hz⟩ : ∃ z, Hid (z = g k j) := ⟨_, hid rfl⟩
          obtain ⟨y, hy⟩ : ∃ y, Hid (y = netRow g k j (netTo g n k) j) := ⟨_, hid rfl⟩
          have hzb : 0 ≤ z ∧ z ≤ 1000000 := by rw [hz.out]; exact HB.out k j hlt hlj
          have hyb : -100000000 ≤ y ∧ y ≤ 100000000 := by
            have := netRow_bd HB.out hlt _ (netTo_bd HB.out (by omega) k hk) j hj j
            rw [← hy.out] at this
            omega
          rw [← hz.out] at hc1
          rw [← hy.out] at cj
          go_upto_region 9 with fail
          have A9 := hA.out.set_ j (y + z)
          have ck := A9.cell hlt
          have fk := A9.frozen k
          obtain ⟨x, hx⟩ : ∃ x, Hid (x = upd (netRow g k j (netTo g n k)) j (y + z) k) := ⟨_, hid rfl⟩
          have hxb : -200000000 ≤ x ∧ x ≤ 200000000 := by
            have := netRow_bd HB.out hlt _ (netTo_bd HB.out (by omega) k hk) j hj k
            rw [hx.out]
            unfold upd
            split <;> omega
          rw [← hx.out] at ck
          have A9 := hid A9
          have E9 := hid (he.setCell (p := ⟨G, j, none⟩) (.int .i64 (y + z)) (by have := hG.out; show w.heap.size ≤ G; omega))
          clear cj fj hc1 hb1
          obtain ⟨W9, hW9⟩ : ∃ W9, Hid (W9 = wr.setCell ⟨G, j, none⟩ (.int .i64 (y + z))) := ⟨_, hid rfl⟩
          rw [← hW9.out] at ck fk A9 E9 ⊢
          have Gl := A9.out.lt
          go_wp2_with fail
          go_roundw
          case rel =>
            refine ⟨j + 1, by omega, by go_num, hid ?_, E9.out.setCell _ (by have := hG.out; show w.heap.size ≤ G; omega)⟩
            have e : netRow g k (j + 1) (netTo g n k) = upd (upd (netRow g k j (netTo g n k)) j (y + z)) k (x - z) := by rw [hx.out, hy.out, hz.out]; rfl
            rw [e]
            exact A9.out.set_ k (x - z)
          case measure => simp [intOf]; omega
        · go_wp2_with fail
          have : j = n := by omega
          subst this
          go_roundw
          case rel => exact ⟨k + 1, by omega, by go_num, hA, he⟩
          case measure => simp [intOf]; omega
    · go_wp2_with fail
      go_ret
      have : k = n := by omega
      subst this
      exact ⟨G, rfl, he, by have := hG.out; omega, hA.out⟩
theorem net32 {w : World} {A : Option Addr} {n cap : Nat} {m : Nat → Nat} {g : Nat → Nat → Int} (hr : RdN w A n m g) (hn : n ≤ 1000) (hm : ∀ k, k < n → m k ≤ 1000) :
    Calls Tryz.prog 32 #[.slice A n cap] w (fun e w' => ∃ u, e = .returned (.tuple #[u, .int .i64 (chkD n m g)]) ∧ Ext w w' ∧ (chkD n m g = 0 → ∃ G, u = .slice (some ⟨G, 0, none⟩) n n ∧ w.heap.size ≤ G ∧ ArrB w' G 3 n (netTo g n n))) := by
  have HR := hid hr
  have HM := hid hm
  clear hr hm
  obtain ⟨s, hs⟩ : ∃ s, Hid (chkD n m g = s) := ⟨_, hid rfl⟩
  rw [hs.out]
  by_cases h0 : s = 0
  · subst h0
    obtain ⟨hd, hsq⟩ := chkD_zero hs.out
    have hR := HR.out.congr (m' := fun _ => n) (g' := g) fun k hk => ⟨hsq k hk, fun _ _ => rfl⟩
    have HR2 := hid hR
    have HD := hid hd
    clear hR hd hsq
    go_enter Tryz.func32, Tryz.ntmps32
    go_wp2_with (first | (go_at_call 33; refine (checkDebts33 HR.out hn HM.out).mono ?_; rintro e w1 ⟨rfl, he1⟩; rw [hs.out]; have E1 := hid he1; clear he1) | (go_at_call 108; refine (net108 (HR2.out.ext E1.out) HD.out).mono ?_; rintro e w2 ⟨G, rfl, he2, hG, hA⟩; have HA := hid hA; clear hA))
    go_ret2
    exact ⟨_, rfl, E1.out.trans he2, fun _ => ⟨G, rfl, by have := E1.out.size; omega, HA.out⟩⟩
  · have hne : (s != 0) = true := by simpa using h0
    go_enter Tryz.func32, Tryz.ntmps32
    go_wp2_with (go_at_call 33; refine (checkDebts33 HR.out hn HM.out).mono ?_; rintro e w1 ⟨rfl, he1⟩; rw [hs.out])
    go_ret2
    exact ⟨_, rfl, he1, fun h => absurd h h0⟩
end Go.Proofs.YtbceepjjdfpfmaaGreat
